/- Walks: copies of modes. -/
import Derived.Test.YtfkbbicacgeiiaaW8
import Derived.Lib.SliceRun
namespace Go.Proofs.Ytfkbbicacgeiiaa
open Go.RowKit

theorem mdCells_one (ms : List Md) : ∀ u ∈ mdCells ms, u.oneCell' = true := by
  intro u hu
  simp only [mdCells, List.mem_flatMap] at hu
  obtain ⟨m, _, hu⟩ := hu
  simp at hu
  rcases hu with rfl | rfl <;> rfl

theorem mdCells_length (ms : List Md) : (mdCells ms).length = ms.length * 2 := by
  induction ms with
  | nil => rfl
  | cons m ms ih => simp [mdCells] at ih ⊢; omega

/-- a copy of modes, of memory of its own -/
def ClonePost (ms : List Md) (w : World) (e : Ending) (w' : World) : Prop :=
  ∃ A c, e = .returned (.slice A ms.length c) ∧ w'.ownsRow w.heap.size 39 2 (.slice A ms.length c) ms.length (mdCells ms) ∧ Below w.heap.size w w'

set_option maxRecDepth 10000 in
set_option maxHeartbeats 1000000 in
theorem w_clone (ms : List Md) (A : Option Addr) (c : Nat) (w : World) (hr : Rd w w.heap.size 2 A ms.length (mdCells ms)) (hn : ms.length ≤ 1000) :
    Calls Try.prog 40 #[.slice A ms.length c] w (ClonePost ms w) := by
  have hnil := fun (W : World) => Lib.run_eql_slice_nil W 23 39 A ms.length c 0 0 Try.underlying23
  obtain ⟨i0, hi0, hz0, hz1, hz2⟩ := info_parts info_mode
  rcases A with _ | ad
  · have h0 : ms.length = 0 := by
      rcases Nat.eq_zero_or_pos ms.length with h | h
      · exact h
      · obtain ⟨_, _, h, _⟩ := hr.2 h; cases h
    have e0 : ms = [] := List.eq_nil_of_length_eq_zero h0
    subst e0
    clear h0 hr
    simp only [Option.isNone_none, List.length_nil] at hnil
    go_enter Try.func40, Try.ntmps40
    go_wp2
    go_ret
    exact ⟨none, 0, rfl, World.ownsRow_nil _ _ _ _, Below.refl _ _⟩
  · simp only [Option.isNone_some] at hnil
    have HR := Lib.hid ((hr.reads.alloc (Nat.le_refl _) (Obj.cells #[] 39)))
    clear hr
    go_enter Try.func40, Try.ntmps40
    go_wp2_with (at_builtin; refine wpList_append_any _ rfl (.tmp 5) (.tmp 6) _ rfl w.heap.size 39 i0 _ 2 16 Try.underlying23 hi0 hz0 hz1 hz2 rfl (by decide) _ _ _ rfl (World.ownsRow_made w #[] 0 (Nat.le_refl _) (by decide) rfl) _ _ _ _ _ rfl HR.out (mdCells_one ms) (by unfold maxLen; omega) (by omega) (by simp) ?_; intro v4 w4 hown4 hgr4 hat4)
    have hb : Below w.heap.size w w4 := ((Below.refl _ _).alloc (Nat.le_refl _) _).trans (below_of_grown hgr4 (by simp) (by intro x hx; have hx' : some w.heap.size = some x := hx; injection hx' with hx'; omega))
    have HO := Lib.hid hown4
    have HB := Lib.hid hb
    clear hb hown4 hgr4 hat4
    simp only [Nat.zero_add, List.nil_append] at HO
    obtain ⟨A4, c4, rfl⟩ := own_form HO.out
    go_wp2
    go_ret
    exact ⟨A4, c4, rfl, HO.out, HB.out⟩

set_option maxRecDepth 10000 in
set_option maxHeartbeats 1000000 in
theorem w_copyBody (ms : List Md) (A : Option Addr) (c : Nat) (w : World) (hr : Rd w w.heap.size 2 A ms.length (mdCells ms)) (hn : ms.length ≤ 1000) :
    Calls Try.prog 73 #[.agg #[.slice A ms.length c]] w fun e w' =>
      ∃ A c, e = .returned (.agg #[.slice A ms.length c]) ∧ w'.ownsRow w.heap.size 39 2 (.slice A ms.length c) ms.length (mdCells ms) ∧ Below w.heap.size w w' := by
  have k := fun (W : World) (h : Rd W W.heap.size 2 A ms.length (mdCells ms)) => w_clone ms A c W h hn
  have HR := Lib.hid hr
  clear hr
  go_enter Try.func73, Try.ntmps73
  go_wp2_with fail
  refine (k _ ((HR.out.allocM _).allocM _)).mono ?_
  rintro e w1 ⟨A1, c1, rfl, ho, hb⟩
  have HX := Lib.hid ((Blk.new (w.alloc (Obj.cells #[Value.slice A ms.length c] 25)) 25 #[Value.slice none 0 0]).below hb (by simp))
  have HO := Lib.hid (own_lower (base' := w.heap.size) ho (by simp; omega))
  have HB := Lib.hid ((((Below.refl _ _).alloc (Nat.le_refl w.heap.size) _).alloc (by simp) _).trans (hb.mono (by simp; omega)))
  rw [show (w.alloc (Obj.cells #[Value.slice A ms.length c] 25)).heap.size = w.heap.size + 1 by simp] at HX
  have x0 : w1.cell? ⟨w.heap.size + 1, 0, none⟩ = some (.slice none 0 0) := HX.out.cell 0
  have x1 := HX.out.frozen 0
  clear hb ho k HR
  go_wp2
  refine bodyPost_ret (v := .agg #[.slice A1 ms.length c1]) (by simp [results, Try.results73, go_sem, x0]) rfl ?_
  exact ⟨A1, c1, rfl, own_set HO.out (own_blk_ne HO.out HX.out (by decide)) _, HB.out.setCell (by simp) _⟩

end Go.Proofs.Ytfkbbicacgeiiaa
