/- Walks: valid bodies. -/
import Derived.Test.YtfkbbicacgeiiaaW5
import Derived.Test.YtfkbbicacgeiiaaG6
namespace Go.Proofs.Ytfkbbicacgeiiaa
open Go.RowKit

set_option maxRecDepth 10000 in
set_option maxHeartbeats 1000000 in
theorem w_indexM (ms : List Md) (A : Option Addr) (c : Nat) (w : World) (hr : Rd w w.heap.size 2 A ms.length (mdCells ms)) (hg : ∀ m ∈ ms, GoodMd m) (hn : ms.length ≤ 1000) :
    Calls Try.prog 71 #[.slice A ms.length c, .func (Fn.func 50) #[] #[]] w fun e w' => e = .returned (.int .i64 (-1)) ∧ Below w.heap.size w w' := by
  have HG := Lib.hid hg
  have k := fun (p q g h : Nat) (W : World) => w_isMode1 p q g h W
  clear hg
  go_enter Try.func71, Try.ntmps71
  go_wp2_with fail
  go_loopw [8] (fun s8 wx => (∃ i : Nat, s8 = .int .i64 i ∧ i ≤ ms.length) ∧ Below w.heap.size w wx) (fun s8 _ => ms.length - (intOf s8).toNat)
  case atStart => exact ⟨⟨0, rfl, Nat.zero_le _⟩, Below.refl _ _⟩
  case round =>
    obtain ⟨⟨i, rfl, hi⟩, hb⟩ := hrel
    have HB := Lib.hid hb
    clear hb
    by_cases hlt : i < ms.length
    · obtain ⟨b, o, rfl, hbl, hcell⟩ := hr.at_ (by omega)
      obtain ⟨hc0, hc1⟩ := mdCells_at ms i hlt
      have d0 := (HB.out.cell (p := ⟨b, o + i * 2, none⟩) hbl).trans (hcell _ _ hc0)
      have d1 : wr.cell? ⟨b, o + i * 2 + 1, none⟩ = some _ := (HB.out.cell (p := ⟨b, o + i * 2 + 1, none⟩) hbl).trans (hcell _ _ hc1)
      have hgm := HG.out ms[i] (List.getElem_mem hlt)
      have kk := fun W => k ms[i].pole.1 ms[i].pole.2 ms[i].gain.1 ms[i].gain.2 W hgm
      clear hcell hc0 hc1 hgm hr
      go_wp2_with fail
      refine (kk _).mono ?_
      rintro e w1 ⟨rfl, hb1⟩
      have HB1 := Lib.hid (HB.out.trans (hb1.mono HB.out.size))
      clear hb1 kk k
      go_wp2
      go_roundw
      case rel => exact ⟨⟨i + 1, by go_num, by omega⟩, HB1.out⟩
      case measure => simp [intOf]; omega
    · go_wp2
      go_ret
      exact ⟨rfl, HB.out⟩

set_option maxHeartbeats 1000000 in
theorem w_containsM (ms : List Md) (A : Option Addr) (c : Nat) (w : World) (hr : Rd w w.heap.size 2 A ms.length (mdCells ms)) (hg : ∀ m ∈ ms, GoodMd m) (hn : ms.length ≤ 1000) :
    Calls Try.prog 49 #[.slice A ms.length c, .func (Fn.func 50) #[] #[]] w fun e w' => e = .returned (.bool false) ∧ Below w.heap.size w w' := by
  have k := w_indexM ms A c w hr hg hn
  clear hr hg
  go_enter Try.func49, Try.ntmps49
  go_wp2_with fail
  refine k.mono ?_
  rintro e w1 ⟨rfl, hb⟩
  have HB := Lib.hid hb
  clear hb
  go_wp2
  go_ret
  exact ⟨rfl, HB.out⟩

theorem Rd.allocM {w : World} {size n : Nat} {A : Option Addr} {xs : List Value} (h : Rd w w.heap.size size A n xs) (o : Obj) : Rd (w.alloc o) (w.alloc o).heap.size size A n xs :=
  (h.alloc (Nat.le_refl _) o).more (by simp)

set_option maxRecDepth 10000 in
set_option maxHeartbeats 1000000 in
theorem w_isBody (ms : List Md) (A : Option Addr) (c : Nat) (w : World) (hr : Rd w w.heap.size 2 A ms.length (mdCells ms)) (hg : ∀ m ∈ ms, GoodMd m) (hn : ms.length ≤ 16) :
    Calls Try.prog 23 #[.agg #[.slice A ms.length c]] w fun e w' => e = .returned (.bool true) ∧ Below w.heap.size w w' := by
  have k := fun (W : World) (h : Rd W W.heap.size 2 A ms.length (mdCells ms)) => w_containsM ms A c W h hg (by omega)
  have HR := Lib.hid hr
  clear hr hg
  go_enter Try.func23, Try.ntmps23
  go_wp2_with fail
  refine (k _ (HR.out.allocM _)).mono ?_
  rintro e w1 ⟨rfl, hb⟩
  have HB := Lib.hid (((Below.refl _ _).alloc (Nat.le_refl _) _).trans (hb.mono (by simp)))
  clear hb k
  go_wp2
  go_ret
  exact ⟨rfl, HB.out⟩

set_option maxHeartbeats 1000000 in
theorem w_count (n : Int) (w : World) (h1 : 0 ≤ n) (h2 : n ≤ 2000) :
    Calls Try.prog 24 #[.int .i64 n] w fun e w' => e = .returned (.bool true) ∧ w = w' := by
  have d1 : decide (0 ≤ n) = true := decide_eq_true h1
  have d2 : decide (n ≤ 2000) = true := decide_eq_true h2
  go_enter Try.func24, Try.ntmps24
  go_wp2
  go_ret
  exact ⟨rfl, rfl⟩

end Go.Proofs.Ytfkbbicacgeiiaa
