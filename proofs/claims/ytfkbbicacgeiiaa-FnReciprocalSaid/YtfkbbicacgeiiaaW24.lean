/- Walks: no room is shared with a room of no places. -/
import Derived.Test.YtfkbbicacgeiiaaW18
import Derived.Test.YtfkbbicacgeiiaaM4
namespace Go.Proofs.Ytfkbbicacgeiiaa
open Go.RowKit

attribute [local go_sem] run_store_float run_store_complex alloc_drewN setCell_drewN

set_option maxRecDepth 10000 in
set_option maxHeartbeats 4000000 in
theorem w_shareNo (ma mb : List Md) (ra : List RowD) (A S A' S' : Option Addr) (c d c' d' : Nat) (w : World) (hra : RoomAt w w.heap.size A ma S ra) (hrb : RoomAt w w.heap.size A' mb S' []) (hga : RoomGood ma ra) (hgb : RoomGood mb []) (hla : 0 < ra.length) :
    Calls Try.prog 18 #[.agg #[.slice A ma.length c, .slice S ra.length d], .agg #[.slice A' mb.length c', .slice S' 0 d'], .float .f32 0] w
      fun e w' => e = .returned (.tuple #[.agg #[.slice none 0 0, .slice none 0 0], .bool false]) ∧ Below w.heap.size w w' := by
  have k := fun (W : World) (h : RoomAt W W.heap.size A ma S ra) => w_isRoom ma ra A S c d W h hga
  have k' : ∀ (W : World) (_ : RoomAt W W.heap.size A' mb S' []), Calls Try.prog 36 #[.agg #[.slice A' mb.length c', .slice S' 0 d']] W (IsRoomPost W) := fun W h => w_isRoom mb [] A' S' c' d' W h hgb
  have HAA := Lib.hid hra
  have HBB := Lib.hid hrb
  clear hra hrb hga hgb
  go_enter Try.func18, Try.ntmps18
  go_wp2_with fail
  refine (k _ (((HAA.out.allocM _).allocM _).allocM _)).mono ?_
  rintro e1 w1 ⟨rfl, hb⟩
  have X0 := Lib.hid ((((Blk.new w 47 #[Value.slice A ma.length c, Value.slice S ra.length d]).alloc (Obj.cells #[Value.slice A' mb.length c', Value.slice S' 0 d'] 47)).alloc (Obj.cells #[Value.slice none 0 0, Value.slice none 0 0] 47)).below hb (by simp; omega))
  have X1 := Lib.hid (((Blk.new (w.alloc (Obj.cells #[Value.slice A ma.length c, Value.slice S ra.length d] 47)) 47 #[Value.slice A' mb.length c', Value.slice S' 0 d']).alloc (Obj.cells #[Value.slice none 0 0, Value.slice none 0 0] 47)).below hb (by simp))
  have X2 := Lib.hid ((Blk.new ((w.alloc (Obj.cells #[Value.slice A ma.length c, Value.slice S ra.length d] 47)).alloc (Obj.cells #[Value.slice A' mb.length c', Value.slice S' 0 d'] 47)) 47 #[Value.slice none 0 0, Value.slice none 0 0]).below hb (by simp))
  rw [show (w.alloc (Obj.cells #[Value.slice A ma.length c, Value.slice S ra.length d] 47)).heap.size = w.heap.size + 1 by simp] at X1
  rw [show ((w.alloc (Obj.cells #[Value.slice A ma.length c, Value.slice S ra.length d] 47)).alloc (Obj.cells #[Value.slice A' mb.length c', Value.slice S' 0 d'] 47)).heap.size = w.heap.size + 2 by simp] at X2
  have B1 := Lib.hid (((((Below.refl _ _).alloc (Nat.le_refl w.heap.size) _).alloc (by simp) _).alloc (by simp; omega) _).trans (hb.mono (by simp; omega)))
  have x0 : w1.cell? ⟨w.heap.size, 0, none⟩ = some (.slice A ma.length c) := X0.out.cell 0
  have x1 : w1.cell? ⟨w.heap.size, 1, none⟩ = some (.slice S ra.length d) := X0.out.cell 1
  have x2 : w1.cell? ⟨w.heap.size + 1, 0, none⟩ = some (.slice A' mb.length c') := X1.out.cell 0
  have x3 : w1.cell? ⟨w.heap.size + 1, 1, none⟩ = some (.slice S' 0 d') := X1.out.cell 1
  clear hb k
  go_wp2_with fail
  refine (k' _ ((HBB.out.below B1.out).more B1.out.size)).mono ?_
  rintro e1 w2 ⟨rfl, hb⟩
  have Y0 := Lib.hid (X0.out.below hb X0.out.lt)
  have Y1 := Lib.hid (X1.out.below hb X1.out.lt)
  have Y2 := Lib.hid (X2.out.below hb X2.out.lt)
  have B2 := Lib.hid (B1.out.trans (hb.mono B1.out.size))
  clear hb k' X0 X1 X2 B1 x0 x1 x2 x3
  have x1 : w2.cell? ⟨w.heap.size, 1, none⟩ = some (.slice S ra.length d) := Y0.out.cell 1
  have x3 : w2.cell? ⟨w.heap.size + 1, 1, none⟩ = some (.slice S' 0 d') := Y1.out.cell 1
  have z0 : w2.cell? ⟨w.heap.size + 2, 0, none⟩ = some (.slice none 0 0) := Y2.out.cell 0
  have z1 : w2.cell? ⟨w.heap.size + 2, 1, none⟩ = some (.slice none 0 0) := Y2.out.cell 1
  have z2 := Y2.out.frozen 0
  have z3 := Y2.out.frozen 1
  have hla' : ((ra.length : Int) == 0) = false := by rw [beq_eq_false_iff_ne]; omega
  go_wp2
  refine bodyPost_ret (v := .tuple #[.agg #[.slice none 0 0, .slice none 0 0], .bool false]) (by simp [results, Try.results18, go_sem, z0, z1]) rfl ?_
  exact ⟨rfl, (B2.out.setCell (by simp; omega) _).setCell (by simp; omega) _⟩

end Go.Proofs.Ytfkbbicacgeiiaa
