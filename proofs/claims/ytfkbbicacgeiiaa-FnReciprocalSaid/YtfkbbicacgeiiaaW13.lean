/- Walks: a room rings. -/
import Derived.Test.YtfkbbicacgeiiaaW12
namespace Go.Proofs.Ytfkbbicacgeiiaa
open Go.RowKit

attribute [local go_sem] run_store_float run_store_complex alloc_drewN setCell_drewN

set_option maxRecDepth 10000 in
set_option maxHeartbeats 1000000 in
theorem w_ringRoom (ms : List Md) (rows : List RowD) (xs : List Nat) (A S A' : Option Addr) (c d c' : Nat) (s e n : Nat) (w : World) (hr : RoomAt w w.heap.size A ms S rows) (hg : RoomGood ms rows)
    (hx : Rd w w.heap.size 1 A' xs.length (xs.map flV)) (hxb : ∀ x ∈ xs, Bd .f32 2 x) (hxl : xs.length ≤ 1000) (hn : n ≤ 25)
    (hs : s < rows.length) (he : e < rows.length) (hws : ∀ x ∈ rows[s].ws, Bd .f32 0 x) (hwe : ∀ x ∈ rows[e].ws, Bd .f32 0 x) :
    Calls Try.prog 16 #[.agg #[.slice A ms.length c, .slice S rows.length d], .int .i64 s, .int .i64 e, .slice A' xs.length c', .int .i64 n] w (RingPost (scaledMs ms (prodL rows[s].ws rows[e].ws)) xs n w) := by
  have k := fun (W : World) (h : RoomAt W W.heap.size A ms S rows) => w_roomBody ms rows A S c d s e W h hg hs he hws hwe
  have HGW := Lib.hid (scaled_good hg.good (prodL_bd hws hwe))
  have hls : rows[s].ws.length = ms.length := (hg.rows_ _ (List.getElem_mem hs)).1
  have hle : rows[e].ws.length = ms.length := (hg.rows_ _ (List.getElem_mem he)).1
  have hlsc := scaledMs_length (prodL_length hls hle)
  have hfew := hg.few
  have HR := Lib.hid hr
  have HX := Lib.hid hx
  clear hr hx hg hws hwe hls hle
  generalize scaledMs ms (prodL rows[s].ws rows[e].ws) = sm at *
  have kr := fun (A : Option Addr) (c : Nat) (W : World) (h : Rd W W.heap.size 2 A sm.length (mdCells sm)) (h' : Rd W W.heap.size 1 A' xs.length (xs.map flV)) =>
    w_ringBody sm xs A A' c c' n W h h' HGW.out (by omega) (by omega) (by omega) (ring_ok (fun m hm => (HGW.out m hm).pg) hxb (by omega) n hn)
  clear hxb
  rw [hlsc] at kr
  go_enter Try.func16, Try.ntmps16
  go_wp2_with fail
  refine (k _ (HR.out.allocM _)).mono ?_
  rintro e1 w1 ⟨A1, c1, rfl, ho, hb⟩
  rw [hlsc] at ho
  have HO := Lib.hid ho
  have HB := Lib.hid (((Below.refl _ _).alloc (Nat.le_refl w.heap.size) _).trans (hb.mono (by simp)))
  have hsz := HB.out.size
  clear hb k ho
  go_wp2_with fail
  refine (kr A1 c1 _ ((Rd.of_own HO.out).allocM _) (((HX.out.below HB.out).more hsz).allocM _)).mono ?_
  rintro e1 w2 ⟨A2, c2, rfl, ho, hb⟩
  have HO2 := Lib.hid (own_lower (base' := w.heap.size) ho (by simp; omega))
  have HB2 := Lib.hid ((HB.out.alloc hsz _).trans (hb.mono (by simp; omega)))
  clear kr ho hb
  go_wp2
  go_ret2
  exact ⟨A2, c2, rfl, HO2.out, HB2.out⟩

end Go.Proofs.Ytfkbbicacgeiiaa
