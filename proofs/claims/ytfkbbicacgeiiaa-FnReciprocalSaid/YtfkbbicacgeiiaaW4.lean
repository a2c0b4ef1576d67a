/- Walks: is a mode valid? (the reference's own function, at any bits) -/
import Derived.Test.YtfkbbicacgeiiaaW3
import Derived.Test.YtfkbbicacgeiiaaG5
namespace Go.Proofs.Ytfkbbicacgeiiaa
open Go.RowKit

def IsModeP (p q g h : Nat) (w : World) (e : Ending) (w' : World) : Prop := ∃ r, e = .returned (.bool r) ∧ Below w.heap.size w w' ∧ (r = true → GoodMd ⟨(p, q), (g, h)⟩)

theorem cw_rule {x y : Nat} (h : WidOk (x, y)) (W : World) : (convert 37 41 (.complex .f32 x y)).run Try.prog W = .ok (.complex .f64 (widC (x, y)).1 (widC (x, y)).2) W :=
  run_convert_complex W _ _ _ _ _ _ _ _ (by kernel_rfl) (by kernel_rfl) (by unfold cConvBits; rw [h.re, h.im]; rfl)

set_option maxRecDepth 10000 in
set_option maxHeartbeats 1000000 in
theorem w_sIsMode (p q g h : Nat) (w : World) (h1 : C32 p q) (h2 : C32 g h) :
    Calls Try.prog 45 #[.agg #[.complex .f32 p q, .complex .f32 g h]] w (IsModeP p q g h w) := by
  have k1 := fun W => w_finS p q W h1.1 h1.2
  have k2 := fun W => w_finS g h W h2.1 h2.2
  have HB : ∀ n, Hid (Below w.heap.size w ((w.alloc (Obj.cells #[Value.complex FloatKind.f32 p q, Value.complex FloatKind.f32 g h] 39)).drewN n)) := fun n => Lib.hid (below_drewN ((Below.refl _ _).alloc (Nat.le_refl _) _) n)
  cases n1 : numB .f32 p && numB .f32 q with
  | false =>
    rw [n1] at k1
    clear n1 k2
    go_enter Try.func45, Try.ntmps45
    go_wp2_with fail
    refine (k1 _).mono ?_
    rintro e w1 ⟨rfl, n, rfl⟩
    go_wp2_with fail
    go_ret
    exact ⟨_, rfl, (HB _).out, fun h => by cases h⟩
  | true =>
    rw [n1] at k1
    cases n2 : numB .f32 g && numB .f32 h with
    | false =>
      rw [n2] at k2
      clear n1 n2
      go_enter Try.func45, Try.ntmps45
      go_wp2_with fail
      refine (k1 _).mono ?_
      rintro e w1 ⟨rfl, n, rfl⟩
      go_wp2_with fail
      refine (k2 _).mono ?_
      rintro e w2 ⟨rfl, m, rfl⟩
      go_wp2_with fail
      go_ret
      exact ⟨_, rfl, (HB _).out, fun h => by cases h⟩
    | true =>
      rw [n2] at k2
      simp only [Bool.and_eq_true] at n1 n2
      have b1 : BdC .f32 128 (p, q) := ⟨numB_yes h1.1 n1.1, numB_yes h1.2 n1.2⟩
      have b2 : BdC .f32 128 (g, h) := ⟨numB_yes h2.1 n2.1, numB_yes h2.2 n2.2⟩
      have w1 := wid_ok b1 (by decide) (by decide)
      have w2 := wid_ok b2 (by decide) (by decide)
      have r1 := cw_rule w1.1
      have r2 := cw_rule w2.1
      have k3 := fun W => w_sq (widC (p, q)).1 (widC (p, q)).2 W (sq_ok w1.2 (by decide) (by decide))
      have k4 := fun W => w_gain _ _ 128 W w2.2.1 w2.2.2
      have HG := Lib.hid (good_of_spec (m := ⟨(p, q), (g, h)⟩) b1 b2)
      clear n1 n2 b1 b2 w1 w2
      generalize hS : sqC (widC (p, q)) = S at *
      have HG2 : Hid (leB .f64 S (one .f64) = true → leB .f64 (absW .f64 (widC (g, h)).1) 4652218415073722368 = true → leB .f64 (absW .f64 (widC (g, h)).2) 4652218415073722368 = true → GoodMd ⟨(p, q), (g, h)⟩) := Lib.hid HG.out
      have k3' : ∀ W, Calls Try.prog 68 #[.complex .f64 (widC (p, q)).1 (widC (p, q)).2] W fun e w' => e = .returned (.float .f64 S) ∧ W = w' := k3
      clear k3 HG hS
      cases hl : leB .f64 S (one .f64) with
      | false =>
        have hl' := hl
        unfold leB one at hl'
        clear hl k4
        go_enter Try.func45, Try.ntmps45
        go_wp2_with fail
        refine (k1 _).mono ?_
        rintro e w1 ⟨rfl, n, rfl⟩
        go_wp2_with fail
        refine (k2 _).mono ?_
        rintro e w2 ⟨rfl, m, rfl⟩
        go_wp2_with fail
        refine (k3' _).mono ?_
        rintro e w3 ⟨rfl, rfl⟩
        go_wp2_with fail
        go_ret
        exact ⟨_, rfl, (HB _).out, fun h => by cases h⟩
      | true =>
        have hl' := hl
        have HL := Lib.hid hl
        unfold leB one at hl'
        clear hl
        generalize hg1 : leB .f64 (absW .f64 (widC (g, h)).1) 4652218415073722368 = g1 at *
        generalize hg2 : leB .f64 (absW .f64 (widC (g, h)).2) 4652218415073722368 = g2 at *
        clear hg1 hg2
        go_enter Try.func45, Try.ntmps45
        go_wp2_with fail
        refine (k1 _).mono ?_
        rintro e w1 ⟨rfl, n, rfl⟩
        go_wp2_with fail
        refine (k2 _).mono ?_
        rintro e w2 ⟨rfl, m, rfl⟩
        go_wp2_with fail
        refine (k3' _).mono ?_
        rintro e w3 ⟨rfl, rfl⟩
        go_wp2_with fail
        refine (k4 _).mono ?_
        rintro e w4 ⟨rfl, rfl⟩
        go_wp2_with fail
        go_ret
        exact ⟨_, rfl, (HB _).out, fun h => by simp only [Bool.and_eq_true] at h; exact HG2.out HL.out h.1 h.2⟩

end Go.Proofs.Ytfkbbicacgeiiaa
