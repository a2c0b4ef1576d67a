/- Walks: a body out of a room. -/
import Derived.Test.YtfkbbicacgeiiaaM3
namespace Go.Proofs.Ytfkbbicacgeiiaa
open Go.RowKit

attribute [local go_sem] run_store_float run_store_complex alloc_drewN setCell_drewN

/-- a body of memory of its own, and true -/
def BodyMade (ms : List Md) (w : World) (e : Ending) (w' : World) : Prop :=
  ∃ A c, e = .returned (.tuple #[.agg #[.slice A ms.length c], .bool true]) ∧ w'.ownsRow w.heap.size 39 2 (.slice A ms.length c) ms.length (mdCells ms) ∧ Below w.heap.size w w'

set_option maxRecDepth 10000 in
set_option maxHeartbeats 1000000 in
theorem w_checked (ms : List Md) (A : Option Addr) (c : Nat) (w : World) (hr : Rd w w.heap.size 2 A ms.length (mdCells ms)) (hg : ∀ m ∈ ms, GoodMd m) (hn : ms.length ≤ 16) :
    Calls Try.prog 56 #[.agg #[.slice A ms.length c]] w (BodyMade ms w) := by
  have k := fun (W : World) (h : Rd W W.heap.size 2 A ms.length (mdCells ms)) => w_isBody ms A c W h hg hn
  have k2 := fun (W : World) (h : Rd W W.heap.size 2 A ms.length (mdCells ms)) => w_copyBody ms A c W h (by omega)
  have HR := Lib.hid hr
  clear hr hg
  go_enter Try.func56, Try.ntmps56
  go_wp2_with fail
  refine (k _ ((HR.out.allocM _).allocM _)).mono ?_
  rintro e w1 ⟨rfl, hb⟩
  have HX := Lib.hid ((Blk.new (w.alloc (Obj.cells #[Value.slice A ms.length c] 25)) 25 #[Value.slice none 0 0]).below hb (by simp))
  have HY := Lib.hid (((Blk.new w 25 #[Value.slice A ms.length c]).alloc (Obj.cells #[Value.slice none 0 0] 25)).below hb (by simp; omega))
  have HB := Lib.hid ((((Below.refl _ _).alloc (Nat.le_refl w.heap.size) _).alloc (by simp) _).trans (hb.mono (by simp; omega)))
  have y0 : w1.cell? ⟨w.heap.size, 0, none⟩ = some (.slice A ms.length c) := HY.out.cell 0
  have HR1 := Lib.hid (HR.out.below HB.out)
  have hsz := HY.out.lt
  clear hb k HR
  go_wp2_with fail
  refine (k2 _ (HR1.out.more (Nat.le_of_lt hsz))).mono ?_
  rintro e w2 ⟨A2, c2, rfl, ho, hb⟩
  rw [show (w.alloc (Obj.cells #[Value.slice A ms.length c] 25)).heap.size = w.heap.size + 1 by simp] at HX
  have HX2 := Lib.hid (HX.out.below hb HX.out.lt)
  have HO := Lib.hid (own_lower (base' := w.heap.size) ho (Nat.le_of_lt hsz))
  have HB2 := Lib.hid (HB.out.trans (hb.mono (Nat.le_of_lt hsz)))
  have x0 : w2.cell? ⟨w.heap.size + 1, 0, none⟩ = some (.slice none 0 0) := HX2.out.cell 0
  have x1 := HX2.out.frozen 0
  clear hb ho k2 y0
  go_wp2
  refine bodyPost_ret (v := .tuple #[.agg #[.slice A2 ms.length c2], .bool true]) (by simp [results, Try.results56, go_sem, x0]) rfl ?_
  exact ⟨A2, c2, rfl, own_set HO.out (own_blk_ne HO.out HX2.out (by decide)) _, HB2.out.setCell (by simp) _⟩

end Go.Proofs.Ytfkbbicacgeiiaa
