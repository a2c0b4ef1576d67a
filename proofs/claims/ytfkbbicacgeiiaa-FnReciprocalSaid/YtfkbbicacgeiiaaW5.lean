/- Walks: what the program tells of finite numbers and good modes. -/
import Derived.Test.YtfkbbicacgeiiaaW3
import Derived.Laws.BitsAllLaws
import Derived.Deep.RegionWith
import Derived.Test.YtfkbbicacgeiiaaMem
namespace Go.Proofs.Ytfkbbicacgeiiaa
open Go.RowKit

theorem ext_bits (x : Nat) (W : World) : (callFunc 76 #[.float .f64 x]).run Try.prog W = .ok (Next.value (.int .u64 x)) W := by kernel_rfl
theorem ext_from (n : Int) (W : World) : (callFunc 75 #[.int .u64 n]).run Try.prog W = .ok (Next.value (.float .f64 n.toNat)) W := by kernel_rfl

theorem mask63 (x : Nat) : x &&& 9223372036854775807 = x % 9223372036854775808 := Nat.and_two_pow_sub_one_eq_mod x 63

theorem andNot63 (x : Nat) (hx : x < 18446744073709551616) : bits .andNot .u64 (x : Int) 9223372036854775808 = ((x % 9223372036854775808 : Nat) : Int) := by
  have h := u64_andNot_nat x 9223372036854775808 hx (by omega)
  rw [mask63 x] at h
  exact h

theorem absW_f64 (x : Nat) : absW .f64 x = x % 9223372036854775808 := rfl

set_option maxHeartbeats 400000 in
theorem w_abs (x : Nat) (w : World) (hx : x < 2 ^ FloatKind.f64.format.width) :
    Calls Try.prog 59 #[.float .f64 x] w fun e w' => e = .returned (.float .f64 (absW .f64 x)) ∧ w = w' := by
  have e1 := ext_bits x
  have e2 := ext_from (absW .f64 x)
  have e3 : bits .andNot .u64 (x : Int) 9223372036854775808 = ((absW .f64 x : Nat) : Int) := andNot63 x hx
  generalize absW .f64 x = y at *
  clear hx
  go_enter Try.func59, Try.ntmps59
  go_wp2
  go_ret
  exact ⟨rfl, rfl⟩

theorem max_read : FloatKind.f64.format.read 9218868437227405311 = .number false 9007199254740991 971 := by decide

theorem not_gt_max {x : Nat} (h : Bd .f64 1000 x) : FloatKind.f64.format.order x 9218868437227405311 ≠ some .gt := by
  obtain ⟨_, s, m, i, hr, _, _, hd⟩ := h
  rw [order_numbers hr max_read]
  have h1 : Ieee.signed s m (i - min i 971).toNat ≤ Ieee.signed false 9007199254740991 (971 - min i 971).toNat := by
    refine Int.le_trans (signed_le _ _ _) ?_
    rw [signed_pos]
    have h2 := dle_base (base := min i 971) hd (Int.min_le_left _ _) (by omega)
    have h3 : (2 : Nat) ^ (1000 - min i 971).toNat = 2 ^ 29 * 2 ^ (971 - min i 971).toNat := by rw [← Nat.pow_add]; congr 1; omega
    rw [h3] at h2
    have h4 : 9007199254740991 <<< (971 - min i 971).toNat = 9007199254740991 * 2 ^ (971 - min i 971).toNat := Nat.shiftLeft_eq _ _
    rw [h4]
    have h5 : 2 ^ 29 * 2 ^ (971 - min i 971).toNat ≤ 9007199254740991 * 2 ^ (971 - min i 971).toNat := Nat.mul_le_mul_right _ (by decide)
    have h6 := Nat.le_trans h2 h5
    exact Int.ofNat_le.2 h6
  intro h
  injection h with h
  rcases compare_cases (Ieee.signed s m (i - min i 971).toNat) (Ieee.signed false 9007199254740991 (971 - min i 971).toNat) with ⟨h2, _⟩ | ⟨h2, _⟩ | ⟨_, h2⟩
  · rw [h2] at h; cases h
  · rw [h2] at h; cases h
  · omega

set_option maxHeartbeats 400000 in
theorem w_isNaN (x : Nat) (A : Int) (w : World) (h : Bd .f64 A x) :
    Calls Try.prog 82 #[.float .f64 x] w fun e w' => e = .returned (.bool false) ∧ w = w' := by
  have o := ZEq.order (y := x) h (.inl rfl)
  clear h
  go_enter Try.func82, Try.ntmps82
  go_wp2
  go_ret
  exact ⟨rfl, rfl⟩

set_option maxHeartbeats 400000 in
theorem w_isInf (x : Nat) (w : World) (h : Bd .f64 1000 x) :
    Calls Try.prog 83 #[.float .f64 x, .int .i64 0] w fun e w' => e = .returned (.bool false) ∧ w = w' := by
  have k := fun W => w_abs x W h.lt
  have o : (FloatKind.f64.format.order (absW .f64 x) 9218868437227405311 == some .gt) = false := by
    simpa using not_gt_max h.abs
  clear h
  go_enter Try.func83, Try.ntmps83
  go_wp2_with fail
  refine (k _).mono ?_
  rintro e w1 ⟨rfl, rfl⟩
  go_wp2
  go_ret
  exact ⟨rfl, rfl⟩

set_option maxHeartbeats 400000 in
theorem w_finite (x : Nat) (w : World) (h : Bd .f64 1000 x) :
    Calls Try.prog 81 #[.float .f64 x] w fun e w' => e = .returned (.bool true) ∧ w = w' := by
  have k1 := fun W => w_isNaN x _ W h
  have k2 := fun W => w_isInf x W h
  clear h
  go_enter Try.func81, Try.ntmps81
  go_wp2_with fail
  refine (k1 _).mono ?_
  rintro e w1 ⟨rfl, rfl⟩
  go_wp2_with fail
  refine (k2 _).mono ?_
  rintro e w1 ⟨rfl, rfl⟩
  go_wp2
  go_ret
  exact ⟨rfl, rfl⟩

set_option maxHeartbeats 400000 in
theorem w_finiteD (x y : Nat) (w : World) (h : BdC .f64 1000 (x, y)) :
    Calls Try.prog 79 #[.complex .f64 x y] w fun e w' => e = .returned (.bool true) ∧ w = w' := by
  have k1 := fun W => w_finite x W h.1
  have k2 := fun W => w_finite y W h.2
  clear h
  go_enter Try.func79, Try.ntmps79
  go_wp2_with fail
  refine (k1 _).mono ?_
  rintro e w1 ⟨rfl, rfl⟩
  go_wp2_with fail
  refine (k2 _).mono ?_
  rintro e w1 ⟨rfl, rfl⟩
  go_wp2
  go_ret
  exact ⟨rfl, rfl⟩

set_option maxRecDepth 10000 in
set_option maxHeartbeats 1000000 in
theorem w_isWide (a b c d : Nat) (w : World) (h1 : BdC .f64 10 (a, b)) (h2 : BdC .f64 10 (c, d)) (h3 : leB .f64 (sqC (a, b)) (one .f64) = true) :
    Calls Try.prog 72 #[.complex .f64 a b, .complex .f64 c d] w fun e w' => e = .returned (.bool true) ∧ w = w' := by
  have k1 := fun W => w_finiteD a b W (h1.mono (by decide))
  have k2 := fun W => w_finiteD c d W (h2.mono (by decide))
  have k3 := fun W => w_abs c W h2.1.lt
  have k4 := fun W => w_abs d W h2.2.lt
  have o1 := (not_gt_of_bd h2.1.abs pw_1024).1
  have o2 := (not_gt_of_bd h2.2.abs pw_1024).1
  unfold gtB at o1 o2
  have q := sq_ok h1 (by decide) (by decide)
  have c1 := fb_rule (t := 65) q.aa
  have c2 := fb_rule (t := 65) q.bb
  have c3 := fb_rule (t := 65) q.sum
  have o3 := h3
  unfold leB one at o3
  generalize sqC (a, b) = S at *
  clear h1 h2 h3 q
  go_enter Try.func72, Try.ntmps72
  go_wp2_with fail
  refine (k1 _).mono ?_
  rintro e w1 ⟨rfl, rfl⟩
  go_wp2_with fail
  refine (k2 _).mono ?_
  rintro e w1 ⟨rfl, rfl⟩
  go_wp2_with fail
  refine (k3 _).mono ?_
  rintro e w1 ⟨rfl, rfl⟩
  go_wp2_with fail
  refine (k4 _).mono ?_
  rintro e w1 ⟨rfl, rfl⟩
  go_wp2
  go_ret
  exact ⟨rfl, rfl⟩

set_option maxRecDepth 10000 in
set_option maxHeartbeats 1000000 in
theorem w_isMode (p q g h : Nat) (w : World) (hm : GoodMd ⟨(p, q), (g, h)⟩) :
    Calls Try.prog 51 #[.agg #[.complex .f32 p q, .complex .f32 g h]] w fun e w' => e = .returned (.bool true) ∧ Below w.heap.size w w' := by
  have w1 := wid_ok hm.pole (by decide) (by decide)
  have w2 := wid_ok hm.gain (by decide) (by decide)
  have k1 := fun W => w_wid p q W w1.1
  have k2 := fun W => w_wid g h W w2.1
  have k3 := fun W => w_isWide _ _ _ _ W (w1.2.mono (by decide)) w2.2 hm.sq
  clear hm w1 w2
  go_enter Try.func51, Try.ntmps51
  go_wp2
  go_quiet (first
    | (go_at_call_of 54 (Value.complex FloatKind.f32 p q); exact Calls.quiet_of_same ((k1 _).mono fun _ _ ⟨a, b⟩ => ⟨a, b.symm⟩))
    | (go_at_call_of 54 (Value.complex FloatKind.f32 g h); exact Calls.quiet_of_same ((k2 _).mono fun _ _ ⟨a, b⟩ => ⟨a, b.symm⟩))
    | (go_at_call 72; exact Calls.quiet_of_same ((k3 _).mono fun _ _ ⟨a, b⟩ => ⟨a, b.symm⟩)))
  go_wp2
  go_ret
  exact ⟨rfl, below_drewN ((Below.refl _ _).alloc (Nat.le_refl _) _) _⟩

set_option maxHeartbeats 400000 in
theorem w_isMode1 (p q g h : Nat) (w : World) (hm : GoodMd ⟨(p, q), (g, h)⟩) :
    Calls Try.prog 50 #[.agg #[.complex .f32 p q, .complex .f32 g h]] w fun e w' => e = .returned (.bool false) ∧ Below w.heap.size w w' := by
  have k := fun W => w_isMode p q g h W hm
  clear hm
  go_enter Try.func50, Try.ntmps50
  go_wp2_with fail
  refine (k _).mono ?_
  rintro e w1 ⟨rfl, hb⟩
  have HB := Lib.hid hb
  clear hb
  go_wp2
  go_ret
  exact ⟨rfl, (Below.refl _ _ |>.alloc (Nat.le_refl _) _).trans (HB.out.mono (by simp))⟩

end Go.Proofs.Ytfkbbicacgeiiaa
