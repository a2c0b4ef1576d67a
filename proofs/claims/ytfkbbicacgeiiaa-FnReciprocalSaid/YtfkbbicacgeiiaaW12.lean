/- Walks: a room rings. -/
import Derived.Test.YtfkbbicacgeiiaaW11
namespace Go.Proofs.Ytfkbbicacgeiiaa
open Go.RowKit

attribute [local go_sem] run_store_float run_store_complex alloc_drewN setCell_drewN

def NoRoom (w : World) (e : Ending) (w' : World) : Prop := e = .returned (.tuple #[.agg #[.slice none 0 0], .bool false]) ∧ Below w.heap.size w w'

theorem roomAt_none (w : World) (B : Nat) : RoomAt w B none [] none [] := ⟨Rd.none_, Rd.none_, fun r hr => by simp at hr⟩
theorem roomGood_none : RoomGood [] [] := ⟨fun m hm => by simp at hm, fun r hr => by simp at hr, by decide, by decide⟩

set_option maxRecDepth 10000 in
set_option maxHeartbeats 1000000 in
theorem w_noBody (s e : Nat) (w : World) (hs : s ≤ 100000) :
    Calls Try.prog 35 #[.agg #[.slice none 0 0, .slice none 0 0], .int .i64 s, .int .i64 e] w (NoRoom w) := by
  have k : ∀ W : World, Calls Try.prog 36 #[.agg #[.slice none 0 0, .slice none 0 0]] W (IsRoomPost W) := fun W => w_isRoom [] [] none none 0 0 W (roomAt_none _ _) roomGood_none
  have kp : ∀ W : World, Calls Try.prog 37 #[.agg #[.slice none 0 0, .slice none 0 0], .int .i64 s] W fun e w' => e = .returned (.bool (decide (s < 0))) ∧ Below W.heap.size W w' := fun W => w_isPlace (.slice none 0 0) none 0 0 s W hs (by decide)
  have d0 : decide (s < 0) = false := by simp
  rw [d0] at kp
  go_enter Try.func35, Try.ntmps35
  go_wp2_with fail
  refine (k _).mono ?_
  rintro e1 w1 ⟨rfl, hb⟩
  have HX := Lib.hid ((Blk.new (w.alloc (Obj.cells #[Value.slice none 0 0, Value.slice none 0 0] 47)) 25 #[Value.slice none 0 0]).below hb (by simp))
  have HY := Lib.hid (((Blk.new w 47 #[Value.slice none 0 0, Value.slice none 0 0]).alloc (Obj.cells #[Value.slice none 0 0] 25)).below hb (by simp; omega))
  have HB := Lib.hid ((((Below.refl _ _).alloc (Nat.le_refl w.heap.size) _).alloc (by simp) _).trans (hb.mono (by simp; omega)))
  rw [show (w.alloc (Obj.cells #[Value.slice none 0 0, Value.slice none 0 0] 47)).heap.size = w.heap.size + 1 by simp] at HX
  have y0 : w1.cell? ⟨w.heap.size, 0, none⟩ = some (.slice none 0 0) := HY.out.cell 0
  have y1 : w1.cell? ⟨w.heap.size, 1, none⟩ = some (.slice none 0 0) := HY.out.cell 1
  clear hb k
  go_wp2_with fail
  refine (kp _).mono ?_
  rintro e1 w2 ⟨rfl, hb⟩
  have HX1 := Lib.hid (HX.out.below hb HX.out.lt)
  have HB1 := Lib.hid (HB.out.trans (hb.mono HB.out.size))
  have x0 : w2.cell? ⟨w.heap.size + 1, 0, none⟩ = some (.slice none 0 0) := HX1.out.cell 0
  have x1 := HX1.out.frozen 0
  clear hb kp y0 y1
  go_wp2
  refine bodyPost_ret (v := .tuple #[.agg #[.slice none 0 0], .bool false]) (by simp [results, Try.results35, go_sem, x0]) rfl ?_
  exact ⟨rfl, HB1.out.setCell (by simp) _⟩

set_option maxRecDepth 10000 in
set_option maxHeartbeats 1000000 in
theorem w_noRing (s e : Nat) (X : Value) (n : Int) (w : World) (hs : s ≤ 100000) :
    Calls Try.prog 16 #[.agg #[.slice none 0 0, .slice none 0 0], .int .i64 s, .int .i64 e, X, .int .i64 n] w fun e w' => e = .returned (.tuple #[.slice none 0 0, .bool false]) ∧ Below w.heap.size w w' := by
  have k := fun (W : World) => w_noBody s e W hs
  go_enter Try.func16, Try.ntmps16
  go_wp2_with fail
  refine (k _).mono ?_
  rintro e1 w1 ⟨rfl, hb⟩
  have HB := Lib.hid (((Below.refl _ _).alloc (Nat.le_refl w.heap.size) _).trans (hb.mono (by simp)))
  have hsz := HB.out.size
  clear hb k
  go_wp2
  go_ret2
  exact ⟨rfl, HB.out.alloc hsz _⟩

end Go.Proofs.Ytfkbbicacgeiiaa
