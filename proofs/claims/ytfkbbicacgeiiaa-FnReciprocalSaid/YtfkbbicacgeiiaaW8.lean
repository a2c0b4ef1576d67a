/- Walks: valid rooms. -/
import Derived.Test.YtfkbbicacgeiiaaW7
namespace Go.Proofs.Ytfkbbicacgeiiaa
open Go.RowKit

set_option maxRecDepth 10000 in
set_option maxHeartbeats 400000 in
theorem w_isRoom1 (x : Nat) (w : World) (h : Bd .f32 4 x) :
    Calls Try.prog 58 #[.float .f32 x] w fun e w' => e = .returned (.bool false) ∧ w = w' := by
  have hc := conv_ok (s := .f32) (d := .f64) (by decide) h (by decide) (by decide)
  have c1 := cv_rule (s := 34) (d := 65) hc.1 (by kernel_rfl) (by kernel_rfl)
  have k := fun W => w_abs (cv .f32 x .f64) W hc.2.lt
  have o := (not_gt_of_bd hc.2.abs pw_16).2
  unfold leB at o
  generalize absW .f64 (cv .f32 x .f64) = y at *
  generalize cv .f32 x .f64 = z at *
  clear h hc
  go_enter Try.func58, Try.ntmps58
  go_wp2_with fail
  refine (k _).mono ?_
  rintro e w1 ⟨rfl, rfl⟩
  go_wp2
  go_ret
  exact ⟨rfl, rfl⟩

set_option maxRecDepth 10000 in
set_option maxHeartbeats 1000000 in
theorem w_indexF (xs : List Nat) (A : Option Addr) (c : Nat) (w : World) (hr : Rd w w.heap.size 1 A xs.length (xs.map flV)) (hg : ∀ x ∈ xs, Bd .f32 4 x) (hn : xs.length ≤ 1000) :
    Calls Try.prog 74 #[.slice A xs.length c, .func (Fn.func 58) #[] #[]] w fun e w' => e = .returned (.int .i64 (-1)) ∧ w = w' := by
  have HG := Lib.hid hg
  have HR := Lib.hid hr
  clear hg hr
  go_enter Try.func74, Try.ntmps74
  go_wp2_with fail
  go_loopw [8] (fun s8 wx => (∃ i : Nat, s8 = .int .i64 i ∧ i ≤ xs.length) ∧ w = wx) (fun s8 _ => xs.length - (intOf s8).toNat)
  case atStart => exact ⟨⟨0, rfl, Nat.zero_le _⟩, rfl⟩
  case round =>
    obtain ⟨⟨i, rfl, hi⟩, rfl⟩ := hrel
    by_cases hlt : i < xs.length
    · obtain ⟨b, o, rfl, hbl, hcell⟩ := HR.out.at_ (by omega)
      have d0 : w.cell? ⟨b, o + i, none⟩ = some (.float .f32 xs[i]) := hcell i _ (by simp [hlt, flV])
      have kk := fun W => w_isRoom1 xs[i] W (HG.out _ (List.getElem_mem hlt))
      clear hcell
      go_wp2_with fail
      refine (kk _).mono ?_
      rintro e w1 ⟨rfl, rfl⟩
      clear kk
      go_wp2
      go_roundw
      case rel => exact ⟨⟨i + 1, by go_num, by omega⟩, trivial⟩
      case measure => simp [intOf]; omega
    · go_wp2
      go_ret
      exact ⟨rfl, rfl⟩

set_option maxHeartbeats 1000000 in
theorem w_containsF (xs : List Nat) (A : Option Addr) (c : Nat) (w : World) (hr : Rd w w.heap.size 1 A xs.length (xs.map flV)) (hg : ∀ x ∈ xs, Bd .f32 4 x) (hn : xs.length ≤ 1000) :
    Calls Try.prog 57 #[.slice A xs.length c, .func (Fn.func 58) #[] #[]] w fun e w' => e = .returned (.bool false) ∧ w = w' := by
  have k := w_indexF xs A c w hr hg hn
  clear hr hg
  go_enter Try.func57, Try.ntmps57
  go_wp2_with fail
  refine k.mono ?_
  rintro e w1 ⟨rfl, rfl⟩
  go_wp2
  go_ret
  exact ⟨rfl, rfl⟩

/-- a room, read below block 'B' -/
structure RoomAt (w : World) (B : Nat) (A : Option Addr) (ms : List Md) (S : Option Addr) (rows : List RowD) : Prop where
  modes : Rd w B 2 A ms.length (mdCells ms)
  shapes : Rd w B 1 S rows.length (rows.map rowV)
  rows_ : ∀ r ∈ rows, Rd w B 1 r.A r.ws.length (r.ws.map flV)

section
variable {w w' : World} {B B' : Nat} {A S : Option Addr} {ms : List Md} {rows : List RowD}
theorem RoomAt.below (h : RoomAt w B A ms S rows) (hb : Below B w w') : RoomAt w' B A ms S rows := ⟨h.modes.below hb, h.shapes.below hb, fun r hr => (h.rows_ r hr).below hb⟩
theorem RoomAt.more (h : RoomAt w B A ms S rows) (hB : B ≤ B') : RoomAt w B' A ms S rows := ⟨h.modes.more hB, h.shapes.more hB, fun r hr => (h.rows_ r hr).more hB⟩
theorem RoomAt.alloc (h : RoomAt w B A ms S rows) (hB : B ≤ w.heap.size) (o : Obj) : RoomAt (w.alloc o) B A ms S rows := ⟨h.modes.alloc hB o, h.shapes.alloc hB o, fun r hr => (h.rows_ r hr).alloc hB o⟩
theorem RoomAt.allocM (h : RoomAt w w.heap.size A ms S rows) (o : Obj) : RoomAt (w.alloc o) (w.alloc o).heap.size A ms S rows := (h.alloc (Nat.le_refl _) o).more (by simp)
theorem RoomAt.row (h : RoomAt w B A ms S rows) (i : Nat) (hi : i < rows.length) : ∃ b o, S = some ⟨b, o, none⟩ ∧ b < B ∧ w.cell? ⟨b, o + i, none⟩ = some (rowV rows[i]) := by
  obtain ⟨b, o, rfl, hb, hc⟩ := h.shapes.at_ (by omega)
  exact ⟨b, o, rfl, hb, hc i _ (by simp [hi])⟩
end

/-- a room that the program takes for one -/
structure RoomGood (ms : List Md) (rows : List RowD) : Prop where
  good : ∀ m ∈ ms, GoodMd m
  rows_ : ∀ r ∈ rows, r.ws.length = ms.length ∧ ∀ x ∈ r.ws, Bd .f32 4 x
  few : ms.length ≤ 16
  places : rows.length ≤ 16

def IsRoomPost (w : World) (e : Ending) (w' : World) : Prop := e = .returned (.bool true) ∧ Below w.heap.size w w'

set_option maxRecDepth 10000 in
set_option maxHeartbeats 1000000 in
theorem w_isRoom (ms : List Md) (rows : List RowD) (A S : Option Addr) (c d : Nat) (w : World) (hr : RoomAt w w.heap.size A ms S rows) (hg : RoomGood ms rows) :
    Calls Try.prog 36 #[.agg #[.slice A ms.length c, .slice S rows.length d]] w (IsRoomPost w) := by
  have k := fun (W : World) (h : Rd W W.heap.size 2 A ms.length (mdCells ms)) => w_isBody ms A c W h hg.good hg.few
  have HR := Lib.hid hr
  have HG := Lib.hid hg
  have hp := hg.places
  clear hr hg
  go_enter Try.func36, Try.ntmps36
  go_wp2_with fail
  refine (k _ (HR.out.allocM _).modes).mono ?_
  rintro e w1 ⟨rfl, hb⟩
  have HB := Lib.hid (((Below.refl _ _).alloc (Nat.le_refl _) _).trans (hb.mono (by simp)))
  have HX := (Blk.new w 47 #[Value.slice A ms.length c, Value.slice S rows.length d]).below hb (by simp)
  have x0 : w1.cell? ⟨w.heap.size, 0, none⟩ = some (.slice A ms.length c) := HX.cell 0
  have x1 : w1.cell? ⟨w.heap.size, 1, none⟩ = some (.slice S rows.length d) := HX.cell 1
  have HR1 := Lib.hid (HR.out.below HB.out)
  have hsz := HX.lt
  clear hb k HR HX
  go_wp2_with fail
  go_loopw [19] (fun s19 wx => (∃ i : Nat, s19 = .int .i64 i ∧ i ≤ rows.length) ∧ w1 = wx) (fun s19 _ => rows.length - (intOf s19).toNat)
  case atStart => exact ⟨⟨0, rfl, Nat.zero_le _⟩, rfl⟩
  case round =>
    obtain ⟨⟨i, rfl, hi⟩, rfl⟩ := hrel
    by_cases hlt : i < rows.length
    · obtain ⟨b, o, rfl, hbl, hc⟩ := HR1.out.row i hlt
      have hmem : rows[i] ∈ rows := List.getElem_mem hlt
      have hro := (HR1.out.rows_ _ hmem).more (Nat.le_of_lt hsz)
      have hle := (HG.out.rows_ _ hmem).1
      have kk := w_containsF rows[i].ws rows[i].A rows[i].c w1 hro (HG.out.rows_ _ hmem).2 (by rw [hle]; have := HG.out.few; omega)
      unfold rowV at hc
      rw [hle] at hc kk
      clear hro hle hmem
      generalize rows[i].A = A3 at *
      generalize rows[i].c = c3 at *
      go_wp2_with fail
      refine kk.mono ?_
      rintro e w2 ⟨rfl, rfl⟩
      clear kk
      go_wp2
      go_roundw
      case rel => exact ⟨⟨i + 1, by go_num, by omega⟩, trivial⟩
      case measure => simp [intOf]; omega
    · go_wp2
      go_ret
      exact ⟨rfl, HB.out⟩

set_option maxHeartbeats 400000 in
theorem w_isPlace (u : Value) (S : Option Addr) (n d : Nat) (p : Nat) (w : World) (_hp : p ≤ 100000) (_hn : n ≤ 1000) :
    Calls Try.prog 37 #[.agg #[u, .slice S n d], .int .i64 p] w fun e w' => e = .returned (.bool (decide (p < n))) ∧ Below w.heap.size w w' := by
  have hb := (Below.refl w.heap.size w).alloc (Nat.le_refl _) (Obj.cells #[u, Value.slice S n d] 47)
  have HB := Lib.hid hb
  clear hb
  by_cases h : p < n
  · have h0 : decide (p < n) = true := decide_eq_true h
    rw [h0]
    clear h0
    go_enter Try.func37, Try.ntmps37
    go_wp2
    go_ret
    exact ⟨rfl, HB.out⟩
  · have h0 : decide (p < n) = false := decide_eq_false h
    rw [h0]
    clear h0
    go_enter Try.func37, Try.ntmps37
    go_wp2
    go_ret
    exact ⟨rfl, HB.out⟩

end Go.Proofs.Ytfkbbicacgeiiaa
