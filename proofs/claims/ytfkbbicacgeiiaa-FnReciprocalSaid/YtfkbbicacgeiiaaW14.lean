/- Walks: ears that are places; forced shapes. -/
import Derived.Test.YtfkbbicacgeiiaaW13
namespace Go.Proofs.Ytfkbbicacgeiiaa
open Go.RowKit

attribute [local go_sem] run_store_float run_store_complex alloc_drewN setCell_drewN

set_option maxRecDepth 10000 in
set_option maxHeartbeats 400000 in
theorem w_listen1 (u : Value) (S : Option Addr) (n d g p : Nat) (w : World) (hb : Blk w g 47 #[u, .slice S n d]) (hp : p < n) (hn : n ≤ 1000) :
    Calls Try.prog 39 #[.int .i64 p, .pointer (some ⟨g, 0, none⟩)] w fun e w' => e = .returned (.bool false) ∧ Below w.heap.size w w' := by
  have k := fun (W : World) => w_isPlace u S n d p W (by omega) hn
  have h0 : decide (p < n) = true := decide_eq_true hp
  have c0 : w.cell? ⟨g, 0, none⟩ = some u := hb.cell 0
  have c1 : w.cell? ⟨g, 1, none⟩ = some (.slice S n d) := hb.cell 1
  rw [h0] at k
  clear hb h0
  go_enter Try.func39, Try.ntmps39
  go_wp2_with fail
  refine (k _).mono ?_
  rintro e w1 ⟨rfl, hb⟩
  have HB := Lib.hid hb
  clear hb k
  go_wp2
  go_ret
  exact ⟨rfl, HB.out⟩

set_option maxRecDepth 10000 in
set_option maxHeartbeats 1000000 in
theorem w_indexI (u : Value) (S : Option Addr) (n d g p m : Nat) (A : Option Addr) (c : Nat) (w : World) (hb : Blk w g 47 #[u, .slice S n d]) (hr : Rd w w.heap.size 1 A m (List.replicate m (.int .i64 p))) (hp : p < n) (hn : n ≤ 1000) (hm : m ≤ 1000) :
    Calls Try.prog 60 #[.slice A m c, .func (Fn.func 39) #[] #[.pointer (some ⟨g, 0, none⟩)]] w fun e w' => e = .returned (.int .i64 (-1)) ∧ Below w.heap.size w w' := by
  have k := fun (W : World) (h : Blk W g 47 #[u, .slice S n d]) => w_listen1 u S n d g p W h hp hn
  have HX := Lib.hid hb
  have HR := Lib.hid hr
  clear hb hr
  go_enter Try.func60, Try.ntmps60
  go_wp2_with fail
  go_loopw [8] (fun s8 wx => (∃ i : Nat, s8 = .int .i64 i ∧ i ≤ m) ∧ Below w.heap.size w wx) (fun s8 _ => m - (intOf s8).toNat)
  case atStart => exact ⟨⟨0, rfl, Nat.zero_le _⟩, Below.refl _ _⟩
  case round =>
    obtain ⟨⟨i, rfl, hi⟩, hb⟩ := hrel
    have HB := Lib.hid hb
    clear hb
    by_cases hlt : i < m
    · obtain ⟨b, o, rfl, hbl, hcell⟩ := HR.out.at_ (by omega)
      have d0 := (HB.out.cell (p := ⟨b, o + i, none⟩) hbl).trans (hcell i (.int .i64 p) (by simp [hlt]))
      have kk := k wr (HX.out.below HB.out HX.out.lt)
      clear hcell
      go_wp2_with fail
      refine kk.mono ?_
      rintro e w1 ⟨rfl, hb1⟩
      have HB1 := Lib.hid (HB.out.trans (hb1.mono HB.out.size))
      clear hb1 kk k
      go_wp2
      go_roundw
      case rel => exact ⟨⟨i + 1, by go_num, by omega⟩, HB1.out⟩
      case measure => simp [intOf]; omega
    · go_wp2
      go_ret
      exact ⟨rfl, HB.out⟩

set_option maxHeartbeats 1000000 in
theorem w_containsI (u : Value) (S : Option Addr) (n d g p m : Nat) (A : Option Addr) (c : Nat) (w : World) (hb : Blk w g 47 #[u, .slice S n d]) (hr : Rd w w.heap.size 1 A m (List.replicate m (.int .i64 p))) (hp : p < n) (hn : n ≤ 1000) (hm : m ≤ 1000) :
    Calls Try.prog 38 #[.slice A m c, .func (Fn.func 39) #[] #[.pointer (some ⟨g, 0, none⟩)]] w fun e w' => e = .returned (.bool false) ∧ Below w.heap.size w w' := by
  have k := w_indexI u S n d g p m A c w hb hr hp hn hm
  clear hr hb
  go_enter Try.func38, Try.ntmps38
  go_wp2_with fail
  refine k.mono ?_
  rintro e w1 ⟨rfl, hb⟩
  have HB := Lib.hid hb
  clear hb
  go_wp2
  go_ret
  exact ⟨rfl, HB.out⟩

def forcedL (xs : List Nat) (x : Nat) : List Nat := xs.map fun y => fb .mul .f32 y x

def ForcedPost (xs : List Nat) (x : Nat) (w : World) (e : Ending) (w' : World) : Prop :=
  ∃ A c, e = .returned (.slice A xs.length c) ∧ w'.ownsRow w.heap.size 34 1 (.slice A xs.length c) xs.length ((forcedL xs x).map flV) ∧ Below w.heap.size w w'

def ForcedLoop (xs : List Nat) (x : Nat) (w : World) (s5 s11 : Value) (wx : World) : Prop :=
  ∃ i : Nat, s11 = .int .i64 i ∧ i ≤ xs.length ∧ wx.ownsRow w.heap.size 34 1 s5 i ((forcedL (xs.take i) x).map flV) ∧ Below w.heap.size w wx

set_option maxRecDepth 10000 in
set_option maxHeartbeats 1000000 in
theorem w_forced (xs : List Nat) (x : Nat) (A : Option Addr) (c : Nat) (w : World) (hr : Rd w w.heap.size 1 A xs.length (xs.map flV)) (hx : ∀ y ∈ xs, floatBits .mul .f32 y x = some (fb .mul .f32 y x)) (hn : xs.length ≤ 1000) :
    Calls Try.prog 43 #[.slice A xs.length c, .float .f32 x] w (ForcedPost xs x w) := by
  have HR := Lib.hid hr
  have HX := Lib.hid hx
  clear hr hx
  obtain ⟨i1, hi1, hf1, hf2, hf3⟩ := info_parts info_f32
  go_enter Try.func43, Try.ntmps43
  go_wp2_with fail
  go_loopw [5, 11] (ForcedLoop xs x w) (fun _ s11 _ => xs.length - (intOf s11).toNat)
  case atStart => exact ⟨0, rfl, Nat.zero_le _, by simpa [forcedL] using World.ownsRow_made (base := w.heap.size) (e := 34) (size := 1) w #[] 0 (Nat.le_refl _) (by decide) rfl, (Below.refl _ _).alloc (Nat.le_refl _) _⟩
  case round =>
    obtain ⟨i, rfl, hi, how, hbl⟩ := hrel
    obtain ⟨A5, c5, rfl⟩ := own_form how
    have HO := Lib.hid how
    have HB := Lib.hid hbl
    have hsz : w.heap.size ≤ wr.heap.size := hbl.size
    clear how hbl
    by_cases hlt : i < xs.length
    · obtain ⟨b, o, rfl, hb, hcell⟩ := HR.out.at_ (by omega)
      have c0 : wr.cell? ⟨b, o + i, none⟩ = some (.float .f32 xs[i]) := (HB.out.cell (p := ⟨b, o + i, none⟩) hb).trans (hcell i _ (by simp [hlt, flV]))
      have cm := fb_rule (t := 34) (HX.out _ (List.getElem_mem hlt))
      have HE : Hid ((forcedL (xs.take (i + 1)) x).map flV = (forcedL (xs.take i) x).map flV ++ [.float .f32 (fb .mul .f32 xs[i] x)]) := Lib.hid (by unfold forcedL; rw [List.take_succ_eq_append_getElem hlt, List.map_append, List.map_append]; rfl)
      clear hcell
      generalize fb .mul .f32 xs[i] x = y at *
      go_wp2_with (at_builtin; refine wpList_append_any _ rfl (.tmp 15) (.tmp 19) _ rfl w.heap.size 34 i1 _ 1 4 Try.underlying27 hi1 hf1 hf2 hf3 rfl (by decide) _ _ _ rfl (HO.out.alloc _) _ _ 1 1 _ rfl (reads_new _ _ 1 1 _ rfl) (by intro u hu; simp at hu; subst hu; rfl) (by unfold maxLen; omega) (by omega) (by simp; omega) ?_; intro v4 w4 hown4 hgr4 hat4)
      have HO4 := Lib.hid hown4
      have HB4 := Lib.hid ((HB.out.alloc hsz _).grown hgr4 (by simp; omega) (own_base HO.out))
      clear hown4 hgr4 hat4
      go_wp2
      go_roundw
      case rel => exact ⟨i + 1, by go_num, by omega, by rw [HE.out]; exact HO4.out, HB4.out⟩
      case measure => simp [intOf]; omega
    · have hin : i = xs.length := by omega
      subst hin
      rw [List.take_length] at HO
      go_wp2
      go_ret
      exact ⟨A5, c5, rfl, HO.out, HB.out⟩

end Go.Proofs.Ytfkbbicacgeiiaa
