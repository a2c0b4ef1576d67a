/- Draws begun: cursors, rooms, samples, codes. -/
import Derived.Test.YtfkbbicacgeiiaaG7
namespace Go.Proofs.Ytfkbbicacgeiiaa
open Go.RowKit

attribute [local go_sem] run_store_float run_store_complex alloc_drewN setCell_drewN

def NewPost (w : World) (e : Ending) (w' : World) : Prop := ∃ g, e = .returned (.pointer (some ⟨g, 0, none⟩)) ∧ w.heap.size ≤ g ∧ Cur w' g w.heap.size ∧ Below w.heap.size w w'

set_option maxRecDepth 10000 in
set_option maxHeartbeats 1000000 in
theorem w_new (A : Option Addr) (n c : Nat) (w : World) (hb : BytesAt w w.heap.size A n) (hn : (n : Int) ≤ 140737488351232) :
    Calls Try.prog 21 #[.slice A n c] w (NewPost w) := by
  have HB := Lib.hid hb
  clear hb
  go_enter Try.func21, Try.ntmps21
  go_wp2_with fail
  go_loop [3, 4] (fun s3 s4 => ∃ (h : Int) (i : Nat), s3 = .int .i64 h ∧ s4 = .int .i64 i ∧ i ≤ n ∧ i ≤ 4000) (fun _ s4 => n - (intOf s4).toNat)
  case atStart => exact ⟨_, 0, rfl, rfl, Nat.zero_le _, by omega⟩
  case round =>
    obtain ⟨h, i, rfl, rfl, hi1, hi2⟩ := hrel
    have fin : Hid (∀ h : Int, NewPost w (.returned (.pointer (some ⟨w.heap.size, 0, none⟩))) (w.alloc (Obj.cells #[Value.slice A n c, .int .i64 0, .int .i64 h] 83))) := Lib.hid fun h => by
      refine ⟨_, rfl, Nat.le_refl _, ⟨A, n, c, 0, h, Blk.new _ _ _, by omega, by omega, hn, ?_, Nat.le_refl _⟩, (Below.refl _ _).alloc (Nat.le_refl _) _⟩
      exact HB.out.keep fun p hp => World.cell?_alloc_lt w _ p hp
    by_cases h1 : (i : Int) < n
    · by_cases h2 : (i : Int) < 4000
      · obtain ⟨ad, rfl, hb, hcell⟩ := HB.out (by omega)
        obtain ⟨u, hu0, hu1, hu⟩ := hcell i (by omega)
        clear hcell
        go_wp2
        go_round
        case rel => exact ⟨_, i + 1, rfl, by go_num, by omega, by omega⟩
        case measure => simp [intOf]; omega
      · have h2' : decide ((i : Int) < 4000) = false := decide_eq_false h2
        go_wp2
        go_ret
        exact fin.out _
    · have h1' : decide ((i : Int) < n) = false := decide_eq_false h1
      go_wp2
      go_ret
      exact fin.out _

set_option maxRecDepth 10000 in
set_option maxHeartbeats 1000000 in
theorem w_at (A : Option Addr) (n c : Nat) (i : Nat) (w : World) (hb : BytesAt w w.heap.size A n) (hn : n ≤ 1048576) (hi : i ≤ 1000000) :
    Calls Try.prog 8 #[.slice A n c, .int .i64 i] w fun e w' => (∃ x : Int, e = .returned (.int .i64 x) ∧ 0 ≤ x ∧ x ≤ 255) ∧ w = w' := by
  by_cases h1 : (i : Int) < n
  · obtain ⟨ad, rfl, hb', hcell⟩ := hb (by omega)
    obtain ⟨u, hu0, hu1, hu⟩ := hcell i (by omega)
    have HU : Hid (0 ≤ u ∧ u ≤ 255) := Lib.hid ⟨hu0, hu1⟩
    clear hcell hb
    go_enter Try.func8, Try.ntmps8
    go_wp2
    go_ret
    exact ⟨⟨u, rfl, HU.out⟩, rfl⟩
  · clear hb
    go_enter Try.func8, Try.ntmps8
    go_wp2
    go_ret
    exact ⟨⟨_, rfl, by omega, by omega⟩, rfl⟩

/-- a room of memory of its own -/
def RoomMade (w : World) (e : Ending) (w' : World) : Prop :=
  ∃ (A : Option Addr) (c : Nat) (ms : List Md) (S : Option Addr) (d : Nat) (rows : List RowD), e = .returned (.agg #[.slice A ms.length c, .slice S rows.length d]) ∧
    w'.ownsRow w.heap.size 39 2 (.slice A ms.length c) ms.length (mdCells ms) ∧ w'.ownsRow w.heap.size 27 1 (.slice S rows.length d) rows.length (rows.map rowV) ∧ OwnRows w' w.heap.size rows ∧
    ms.length ≤ 4 ∧ rows.length ≤ 4 ∧ (∀ m ∈ ms, GoodMd m) ∧ GoodRows ms.length rows ∧ Below w.heap.size w w'

set_option maxRecDepth 10000 in
set_option maxHeartbeats 1000000 in
theorem w_makeRoom (A : Option Addr) (n c : Nat) (w : World) (hb : BytesAt w w.heap.size A n) (hn : (n : Int) ≤ 140737488351232) :
    Calls Try.prog 14 #[.slice A n c, .int .i64 4] w (RoomMade w) := by
  have HB := Lib.hid hb
  have kN := fun (W : World) (h : BytesAt W W.heap.size A n) => w_new A n c W h hn
  have kR : ∀ (g B : Nat) (W : World), Cur W g B → Calls Try.prog 33 #[.pointer (some ⟨g, 0, none⟩), .int .i64 4] W (RoomPost 4 W g B) := fun g B W h => w_l4Room g B 4 W h (by decide)
  clear hb
  go_enter Try.func14, Try.ntmps14
  go_wp2_with fail
  refine (kN _ (by
    have h := HB.out.keep (w' := w.alloc (Obj.cells #[Value.slice none 0 0, Value.slice none 0 0] 47)) fun p hp => World.cell?_alloc_lt w _ p hp
    intro h0
    obtain ⟨ad, e, hb, hc⟩ := h h0
    exact ⟨ad, e, by simp; omega, hc⟩)).mono ?_
  rintro e w1 ⟨g, rfl, hg, hcur, hb1⟩
  have HC := Lib.hid hcur
  have HB1 := Lib.hid hb1
  have HR1 := Lib.hid ((Blk.new w 47 #[Value.slice none 0 0, Value.slice none 0 0]).below hb1 (by simp))
  clear hcur hb1
  go_wp2_with fail
  refine (kR _ _ _ HC.out).mono ?_
  rintro e w2 ⟨A2, c2, ms, S, d, rows, rfl, hom, hos, hor, h1, h2, h3, h4, hcr⟩
  have hsz : w.heap.size + 1 ≤ w1.heap.size := HR1.out.lt
  have hg' : w.heap.size + 1 ≤ g := by simpa using hg
  have HR2 := Lib.hid (HR1.out.grown hcr.2 (by simp; omega))
  have HOM := Lib.hid (own_lower (base' := w.heap.size) hom (by omega))
  have HOS := Lib.hid (own_lower (base' := w.heap.size) hos (by omega))
  have HOR : Hid (OwnRows w2 w.heap.size rows) := Lib.hid fun r hr => own_lower (hor r hr) (by omega)
  have HBL : Hid (Below w.heap.size w w2) := Lib.hid ((((Below.refl _ _).alloc (Nat.le_refl _) _).trans (HB1.out.mono (by simp))).trans (below_of_grown hcr.2 (by omega) (by intro x hx; injection hx with hx; omega)))
  have H34 : Hid ((∀ m ∈ ms, GoodMd m) ∧ GoodRows ms.length rows) := Lib.hid ⟨h3, h4⟩
  have r0 : w2.cell? ⟨w.heap.size, 0, none⟩ = some (.slice none 0 0) := HR2.out.cell 0
  have r1 : w2.cell? ⟨w.heap.size, 1, none⟩ = some (.slice none 0 0) := HR2.out.cell 1
  have r2 := HR2.out.frozen 0
  have r3 := HR2.out.frozen 1
  clear hom hos hor h3 h4 hcr
  go_wp2
  refine bodyPost_ret (v := .agg #[.slice A2 ms.length c2, .slice S rows.length d]) (by simp [results, Try.results14, go_sem, r0, r1]) rfl ?_
  exact ⟨A2, c2, ms, S, d, rows, rfl, own_set (own_set HOM.out (own_blk_ne HOM.out HR2.out (by decide)) _) (own_blk_ne HOM.out HR2.out (by decide)) _, own_set (own_set HOS.out (own_blk_ne HOS.out HR2.out (by decide)) _) (own_blk_ne HOS.out HR2.out (by decide)) _,
    (HOR.out.set HR2.out (by decide) _ _).set (HR2.out.set_ 0 _) (by decide) _ _, h1, h2, H34.out.1, H34.out.2, (HBL.out.setCell (by simp) _).setCell (by simp) _⟩

end Go.Proofs.Ytfkbbicacgeiiaa
