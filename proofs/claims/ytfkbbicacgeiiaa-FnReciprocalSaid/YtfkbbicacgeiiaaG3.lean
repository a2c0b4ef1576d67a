/- Draws of numbers: l1Some, l1Odd, l1Any, l1Single, l2Turn. -/
import Derived.Test.YtfkbbicacgeiiaaG2
import Derived.Test.YtfkbbicacgeiiaaF5
namespace Go.Proofs.Ytfkbbicacgeiiaa
open Go.RowKit

def BdF64 (A : Int) (v : Value) : Prop := ∃ b, v = .float .f64 b ∧ Bd .f64 A b
def BdF32 (A : Int) (v : Value) : Prop := ∃ b, v = .float .f32 b ∧ Bd .f32 A b

theorem quo16 {x : Int} (h1 : -32 ≤ x) (h2 : x ≤ 32) : floatBits .quo .f64 (floatOfInt .f64 x) 4625196817309499392 = some (fb .quo .f64 (floatOfInt .f64 x) 4625196817309499392) ∧ Bd .f64 20 (fb .quo .f64 (floatOfInt .f64 x) 4625196817309499392) := by
  have h := quo_ok (A := 5) 4 (int_bd (k := .f64) (n := x) (by show x.natAbs ≤ 2 ^ 5; omega) (by decide) (by decide)) (show FloatKind.f64.format.read 4625196817309499392 = .number false (2 ^ 52) (-48) from by decide) ⟨by decide, .inr (by decide)⟩ (by decide) (by decide)
  exact ⟨h.1, h.2.mono (by decide)⟩
theorem quoM {x : Int} (h1 : -1000000 ≤ x) (h2 : x ≤ 1000000) : floatBits .quo .f64 (floatOfInt .f64 x) 4697254411347427328 = some (fb .quo .f64 (floatOfInt .f64 x) 4697254411347427328) ∧ Bd .f64 20 (fb .quo .f64 (floatOfInt .f64 x) 4697254411347427328) := by
  have h := quo_ok (A := 20) 20 (int_bd (k := .f64) (n := x) (by show x.natAbs ≤ 2 ^ 20; omega) (by decide) (by decide)) (show FloatKind.f64.format.read 4697254411347427328 = .number false (2 ^ 52) (-32) from by decide) ⟨by decide, .inr (by decide)⟩ (by decide) (by decide)
  exact ⟨h.1, h.2.mono (by decide)⟩
theorem quo3 {x : Int} (h1 : -1000000 ≤ x) (h2 : x ≤ 1000000) : floatBits .quo .f64 (floatOfInt .f64 x) 4613937818241073152 = some (fb .quo .f64 (floatOfInt .f64 x) 4613937818241073152) ∧ Bd .f64 20 (fb .quo .f64 (floatOfInt .f64 x) 4613937818241073152) := by
  have h := quo_ok (A := 20) 1 (int_bd (k := .f64) (n := x) (by show x.natAbs ≤ 2 ^ 20; omega) (by decide) (by decide)) (show FloatKind.f64.format.read 4613937818241073152 = .number false 6755399441055744 (-51) from by decide) ⟨by decide, .inr (by decide)⟩ (by decide) (by decide)
  exact ⟨h.1, h.2.mono (by decide)⟩

set_option maxRecDepth 10000 in
set_option maxHeartbeats 400000 in
theorem w_some (g B : Nat) (w : World) (hc : Cur w g B) :
    Calls Try.prog 46 #[.pointer (some ⟨g, 0, none⟩)] w (CP w g B (BdF64 20)) := by
  have k := fun (W : World) (n : Int) (h : Cur W g B) => w_below g B n W h
  go_enter Try.func46, Try.ntmps46
  go_wp2_with fail
  refine (k _ 4 hc (by decide) (by decide)).mono ?_
  rintro e w1 ⟨⟨v, rfl, t, rfl, ht1, ht2⟩, hr1⟩
  have H1 := Lib.hid hr1
  clear hr1
  have hcase : t = 0 ∨ t = 1 ∨ t = 2 ∨ t = 3 := by omega
  rcases hcase with rfl | rfl | rfl | rfl
  · go_wp2_with fail
    refine (k _ 65 H1.out.1 (by decide) (by decide)).mono ?_
    rintro e w2 ⟨⟨v, rfl, x, rfl, hx1, hx2⟩, hr2⟩
    have H2 := Lib.hid (H1.out.trans hr2)
    obtain ⟨q1, q2⟩ := quo16 (x := x - 32) (by omega) (by omega)
    have Q2 := Lib.hid q2
    have hq := fun W => run_float_arith (P := Try.prog) W .quo 65 .f64 _ _ _ q1
    clear hr2 H1 q1 q2 k hc
    go_wp2
    go_ret
    exact ⟨⟨_, rfl, _, rfl, Q2.out⟩, H2.out⟩
  · go_wp2_with fail
    refine (k _ 2000001 H1.out.1 (by decide) (by decide)).mono ?_
    rintro e w2 ⟨⟨v, rfl, x, rfl, hx1, hx2⟩, hr2⟩
    have H2 := Lib.hid (H1.out.trans hr2)
    obtain ⟨q1, q2⟩ := quoM (x := x - 1000000) (by omega) (by omega)
    have Q2 := Lib.hid q2
    have hq := fun W => run_float_arith (P := Try.prog) W .quo 65 .f64 _ _ _ q1
    clear hr2 H1 q1 q2 k hc
    go_wp2
    go_ret
    exact ⟨⟨_, rfl, _, rfl, Q2.out⟩, H2.out⟩
  · go_wp2_with fail
    refine (k _ 2000001 H1.out.1 (by decide) (by decide)).mono ?_
    rintro e w2 ⟨⟨v, rfl, x, rfl, hx1, hx2⟩, hr2⟩
    have H2 := Lib.hid (H1.out.trans hr2)
    obtain ⟨q1, q2⟩ := quo3 (x := x - 1000000) (by omega) (by omega)
    have Q2 := Lib.hid q2
    have hq := fun W => run_float_arith (P := Try.prog) W .quo 65 .f64 _ _ _ q1
    clear hr2 H1 q1 q2 k hc
    go_wp2
    go_ret
    exact ⟨⟨_, rfl, _, rfl, Q2.out⟩, H2.out⟩
  · go_wp2_with fail
    refine (k _ 5 H1.out.1 (by decide) (by decide)).mono ?_
    rintro e w2 ⟨⟨v, rfl, x, rfl, hx1, hx2⟩, hr2⟩
    have H2 := Lib.hid (H1.out.trans hr2)
    have Q2 : Hid (Bd .f64 20 (floatOfInt .f64 (x - 2))) := Lib.hid (int_bd (by show (x - 2).natAbs ≤ 2 ^ 20; omega) (by decide) (by decide))
    clear hr2 H1 k hc
    go_wp2
    go_ret
    exact ⟨⟨_, rfl, _, rfl, Q2.out⟩, H2.out⟩

attribute [local go_sem] run_any_add run_any_sub run_any_mul run_any_quo unary_negF

theorem neg_lt (k : FloatKind) {x : Nat} (h : x < 2 ^ k.format.width) : Op.negFloat k x < 2 ^ k.format.width := by
  cases k
  · exact Nat.xor_lt_two_pow (n := 32) h (by decide)
  · exact Nat.xor_lt_two_pow (n := 64) h (by decide)

set_option maxRecDepth 10000 in
set_option maxHeartbeats 1000000 in
theorem w_odd (g B : Nat) (w : World) (hc : Cur w g B) :
    Calls Try.prog 70 #[.pointer (some ⟨g, 0, none⟩)] w (CP w g B IsF64) := by
  have k := w_below g B 12 w hc (by decide) (by decide)
  go_enter Try.func70, Try.ntmps70
  go_wp2_with fail
  refine k.mono ?_
  rintro e w1 ⟨⟨v, rfl, t, rfl, ht1, ht2⟩, hr1⟩
  have H1 := Lib.hid hr1
  clear hr1 k hc
  go_wp2
  all_goals go_ret
  all_goals first
    | exact ⟨⟨_, rfl, _, rfl, by decide⟩, H1.out⟩
    | exact ⟨⟨_, rfl, _, rfl, anyBits_lt _ _ _ _ _⟩, H1.out.drewN _⟩
    | exact ⟨⟨_, rfl, _, rfl, neg_lt _ (by decide)⟩, H1.out⟩

end Go.Proofs.Ytfkbbicacgeiiaa
