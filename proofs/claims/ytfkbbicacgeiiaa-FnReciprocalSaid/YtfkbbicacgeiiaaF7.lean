/- Absolute values; comparisons with zero; what makes a mode good. -/
import Derived.Test.YtfkbbicacgeiiaaF6
namespace Go.Proofs.Ytfkbbicacgeiiaa
open Ieee

def absW (k : FloatKind) (x : Nat) : Nat := x % k.format.signWeight

theorem abs_read {k : FloatKind} {x : Nat} {s : Bool} {m : Nat} {e : Int} (h : k.format.read x = .number s m e) : k.format.read (absW k x) = .number false m e := by
  have hs := sw_pos k.format
  have h1 : x % k.format.signWeight / k.format.signWeight % 2 = 0 := by
    rw [Nat.div_eq_of_lt (Nat.mod_lt _ hs)]
  have h2 : x % k.format.signWeight % k.format.signWeight = x % k.format.signWeight := Nat.mod_mod _ _
  unfold absW
  unfold Format.read at h ⊢
  simp only [h1, h2] at h ⊢
  split at h
  · rename_i hb
    rw [if_pos hb]
    injection h with a b c
    subst b; subst c
    rfl
  · rename_i hb
    rw [if_neg hb]
    split at h
    · rename_i hb2
      rw [if_pos hb2]
      injection h with a b c
      subst b; subst c
      rfl
    · split at h <;> cases h

theorem abs_lt (k : FloatKind) (x : Nat) : absW k x < 2 ^ k.format.width := by
  have h1 : absW k x < k.format.signWeight := Nat.mod_lt _ (sw_pos _)
  have hw : 2 ^ k.format.width = 2 * k.format.signWeight := by
    unfold Format.width Format.signWeight
    rw [Nat.add_assoc, Nat.add_comm 1, Nat.pow_succ, Nat.mul_comm]
  omega

theorem Bd.abs {k : FloatKind} {A : Int} {x : Nat} (h : Bd k A x) : Bd k A (absW k x) :=
  let ⟨_, _, m, e, hr, hl, hg, hd⟩ := h; ⟨abs_lt k x, false, m, e, abs_read hr, hl, hg, hd⟩

theorem Bd.of_abs {k : FloatKind} {A C : Int} {x : Nat} (h : Bd k C x) (h' : Bd k A (absW k x)) : Bd k A x := by
  obtain ⟨h0, s, m, e, hr, hl, hg, _⟩ := h
  obtain ⟨_, s', m', e', hr', _, _, hd⟩ := h'
  rw [abs_read hr] at hr'
  injection hr' with a b c
  subst b; subst c
  exact ⟨h0, s, m, e, hr, hl, hg, hd⟩

theorem read_zero (k : FloatKind) : k.format.read 0 = .number false 0 k.format.leastPlace := by cases k <;> decide

theorem order_zero {k : FloatKind} {x : Nat} {s : Bool} {m : Nat} {e : Int} (h : k.format.read x = .number s m e) :
    ltB k x 0 = (s && m != 0) ∧ eqB k x 0 = (m == 0) ∧ gtB k x 0 = (!s && m != 0) := by
  have ho := order_numbers h (read_zero k)
  have h0 : signed false 0 (k.format.leastPlace - min e k.format.leastPlace).toNat = 0 := by unfold signed; simp
  rw [h0] at ho
  unfold ltB eqB gtB
  rw [ho]
  by_cases hm : m = 0
  · subst hm
    have h1 : signed s 0 (e - min e k.format.leastPlace).toNat = 0 := by unfold signed; cases s <;> simp
    rw [h1]
    cases s <;> decide
  · obtain ⟨h1, h2⟩ := sign_of_signed (s := s) (d := (e - min e k.format.leastPlace).toNat) hm
    have hm' : (m == 0) = false := by simpa using hm
    have hm'' : (m != 0) = true := by simpa using hm
    rw [hm', hm'']
    rcases compare_cases (signed s m (e - min e k.format.leastPlace).toNat) 0 with ⟨h3, h4⟩ | ⟨h3, h4⟩ | ⟨h3, h4⟩
    · rw [h3]
      have : s = true := by rw [← h2]; exact decide_eq_true h4
      subst this; decide
    · exact absurd h4 h1
    · rw [h3]
      have : s = false := by rw [← h2]; exact decide_eq_false (by omega)
      subst this; decide

theorem neg_word (k : FloatKind) {r : Nat} (h : r < k.format.signWeight) : Op.negFloat k (k.format.word true r) = r := by
  unfold Op.negFloat Format.word
  simp only [if_true]
  have e : 2 ^ (k.format.exponentBits + k.format.fractionBits) = k.format.signWeight := rfl
  rw [e]
  have hx : k.format.signWeight + r = r ^^^ k.format.signWeight := by
    unfold Format.signWeight at *
    rw [Nat.add_comm]
    apply Nat.eq_of_testBit_eq
    intro i
    rw [Nat.testBit_xor, Nat.testBit_two_pow]
    by_cases hi : k.format.exponentBits + k.format.fractionBits = i
    · subst hi
      rw [Nat.add_comm, Nat.testBit_two_pow_add_eq]
      simp
    · rcases Nat.lt_or_gt_of_ne hi with h1 | h1
      · have h2 : r < 2 ^ i := Nat.lt_of_lt_of_le h (Nat.pow_le_pow_right (by omega) (by omega))
        have h3 : r + 2 ^ (k.format.exponentBits + k.format.fractionBits) < 2 ^ i := by
          have : 2 ^ (k.format.exponentBits + k.format.fractionBits + 1) ≤ 2 ^ i := Nat.pow_le_pow_right (by omega) h1
          rw [Nat.pow_succ] at this
          omega
        rw [Nat.testBit_lt_two_pow h2, Nat.testBit_lt_two_pow h3]
        simp [hi]
      · rw [Nat.add_comm, Nat.testBit_two_pow_add_gt h1]
        simp [hi]
  rw [hx, Nat.xor_assoc, Nat.xor_self, Nat.xor_zero]

theorem abs_word {k : FloatKind} {s : Bool} {r : Nat} (h : r < k.format.signWeight) : absW k (k.format.word s r) = r := by
  unfold absW Format.word
  cases s
  · simp; exact Nat.mod_eq_of_lt h
  · simp; exact Nat.mod_eq_of_lt h

/-- what 'l1Abs' gives of a finite number -/
theorem abs_cases {k : FloatKind} {A : Int} {x : Nat} (h : Bd k A x) :
    (ltB k x 0 = true ∧ Op.negFloat k x = absW k x) ∨ (ltB k x 0 = false ∧ eqB k x 0 = true ∧ absW k x = 0) ∨ (ltB k x 0 = false ∧ eqB k x 0 = false ∧ absW k x = x) := by
  obtain ⟨hlt, s, m, e, hr, _, _, _⟩ := h
  obtain ⟨h1, h2, _⟩ := order_zero hr
  obtain ⟨r, rfl, hinf, hcase⟩ := read_number hlt hr
  have hsw : r < k.format.signWeight := Nat.lt_trans hinf k.format.infRung_lt
  by_cases hm : m = 0
  · subst hm
    right; left
    rw [abs_word hsw]
    refine ⟨by rw [h1]; simp, by rw [h2]; rfl, ?_⟩
    rcases hcase with ⟨_, h3, _⟩ | ⟨_, h3, _⟩
    · exact h3.symm
    · have := b_pos k.format; omega
  · have hm' : (m == 0) = false := by simpa using hm
    have hm'' : (m != 0) = true := by simpa using hm
    rw [hm''] at h1
    rw [hm'] at h2
    cases s
    · right; right
      rw [abs_word hsw]
      exact ⟨h1, h2, by simp [Format.word]⟩
    · left
      rw [abs_word hsw, neg_word k hsw]
      exact ⟨h1, rfl⟩

/-- the sum of the squares of the parts, in double precision -/
def sqC (z : C2) : Nat := fb .add .f64 (fb .mul .f64 z.1 z.1) (fb .mul .f64 z.2 z.2)

/-- a mode that is valid: bounds, and the very comparison that the program makes -/
structure GoodMd (m : Md) : Prop where
  pole : BdC .f32 1 m.pole
  gain : BdC .f32 10 m.gain
  sq : leB .f64 (sqC (widC m.pole)) (one .f64) = true

structure SqOk (z : C2) : Prop where
  aa : floatBits .mul .f64 z.1 z.1 = some (fb .mul .f64 z.1 z.1)
  bb : floatBits .mul .f64 z.2 z.2 = some (fb .mul .f64 z.2 z.2)
  sum : floatBits .add .f64 (fb .mul .f64 z.1 z.1) (fb .mul .f64 z.2 z.2) = some (sqC z)

theorem sq_ok {A : Int} {z : C2} (h : BdC .f64 A z) (h1 : 0 ≤ A) (h2 : A + A + 1 < 1024) : SqOk z := by
  have a := mul_ok h.1 h.1 (show -1022 ≤ A + A by omega) (show A + A < 1024 by omega)
  have b := mul_ok h.2 h.2 (show -1022 ≤ A + A by omega) (show A + A < 1024 by omega)
  have c := add_ok (A + A + 1) a.2 b.2 (by omega) (by omega) (show -1022 < A + A + 1 by omega) h2
  exact ⟨a.1, b.1, c.1⟩

theorem square_read {A : Int} {x : Nat} {s : Bool} {m : Nat} {e : Int} (hx : Bd .f64 A x) (hr : FloatKind.f64.format.read x = .number s m e) (h1 : 0 ≤ A) (h2 : A + A < 1024) :
    fb .mul .f64 x x = FloatKind.f64.format.nearest false (m * m) (e + e) ∧ Bd .f64 (A + A) (fb .mul .f64 x x) := by
  have a := mul_ok hx hx (show -1022 ≤ A + A by omega) (show A + A < 1024 by omega)
  refine ⟨fb_of ?_, a.2⟩
  simp [floatBits, Format.mul, hr, Datum.product, Format.write]

theorem nearest_sign {k : FloatKind} {neg s : Bool} {m m' : Nat} {e e' : Int} (h : k.format.read (k.format.nearest neg m e) = .number s m' e') : s = neg := by
  by_cases hm : m = 0
  · subst hm
    rw [nearest_zero, read_word _ _ (inf_pos k), if_pos (b_pos _)] at h
    injection h with a _ _
    exact a.symm
  · rw [nearest_eq _ _ _ _ hm] at h
    have hle : min (rungOf k.format m e) k.format.infRung ≤ k.format.infRung := Nat.min_le_right _ _
    generalize min (rungOf k.format m e) k.format.infRung = r at *
    by_cases hr : r < k.format.infRung
    · rw [read_word _ _ hr] at h
      split at h
      · injection h with a _ _; exact a.symm
      · injection h with a _ _; exact a.symm
    · have : r = k.format.infRung := by omega
      subst this
      have : k.format.read (k.format.word neg k.format.infRung) = .infinity neg := by cases k <;> cases neg <;> decide
      rw [this] at h
      cases h

theorem base_ge {m d : Nat} {i base B : Int} (hd : (d : Int) = i - base) (h : dge m i B) (n : Nat) : dge (m <<< d + n) base B := by
  obtain ⟨h0, h⟩ := h
  have hp := Nat.two_pow_pos d
  have hm : 2 ^ d ≤ m <<< d := by rw [Nat.shiftLeft_eq]; exact Nat.le_mul_of_pos_left _ h0
  refine ⟨by omega, ?_⟩
  by_cases hc : B ≤ base
  · exact .inl hc
  · right
    refine Nat.le_trans ?_ (Nat.le_add_right _ _)
    by_cases hi : B ≤ i
    · exact Nat.le_trans (Nat.pow_le_pow_right (by omega) (by omega)) hm
    · rcases h with h | h
      · omega
      · rw [Nat.shiftLeft_eq]
        have : (2 : Nat) ^ (B - base).toNat = 2 ^ (B - i).toNat * 2 ^ d := by rw [← Nat.pow_add]; congr 1; omega
        rw [this]
        exact Nat.mul_le_mul_right _ h

theorem signed_pos (m d : Nat) : signed false m d = ((m <<< d : Nat) : Int) := by unfold signed; simp only [Bool.false_eq_true, if_false]

/-- the sum of two numbers that are not negative is not below the first -/
theorem sum_ge {A : Int} {x y : Nat} {m n : Nat} {i j B : Int} (hx : Bd .f64 A x) (hy : Bd .f64 A y) (hr : FloatKind.f64.format.read x = .number false m i) (hr' : FloatKind.f64.format.read y = .number false n j)
    (h1 : 0 ≤ A) (h2 : A + 1 < 1024) (hg : dge m i B) (hB : -1022 ≤ B) : ∃ m' e', FloatKind.f64.format.read (fb .add .f64 x y) = .number false m' e' ∧ dge m' e' B := by
  have hb := (add_ok (A + 1) hx hy (by omega) (by omega) (show -1022 < A + 1 by omega) h2).2
  have hge := base_ge (d := (i - min i j).toNat) (base := min i j) (by omega) hg (n <<< (j - min i j).toNat)
  have he : fb .add .f64 x y = FloatKind.f64.format.nearest false (m <<< (i - min i j).toNat + n <<< (j - min i j).toNat) (min i j) := by
    refine fb_of ?_
    simp only [floatBits, Format.add, hr, hr', Datum.sum, Format.write, Option.map_some, signed_pos]
    have hpos := hge.1
    generalize m <<< (i - min i j).toNat = a at *
    generalize n <<< (j - min i j).toNat = b at *
    have hz : ((a : Int) + (b : Int)) ≠ 0 := by omega
    have hneg : decide ((a : Int) + (b : Int) < 0) = false := decide_eq_false (by omega)
    have hab : ((a : Int) + (b : Int)).natAbs = a + b := by omega
    simp only [hz, if_false, hneg, hab]
  rw [he] at hb ⊢
  obtain ⟨m', e', h3, h4, _⟩ := ge_nearest hge (by show -1022 ≤ B; omega) hb
  exact ⟨m', e', h3, h4⟩

theorem dge_mono {m : Nat} {e A B : Int} (h : dge m e B) (hab : A ≤ B) : dge m e A := by
  refine ⟨h.1, ?_⟩
  rcases h.2 with h2 | h2
  · exact .inl (by omega)
  · by_cases hc : A ≤ e
    · exact .inl hc
    · exact .inr (Nat.le_trans (Nat.pow_le_pow_right (by omega) (by omega)) h2)

theorem add_comm' (k : FloatKind) (x y : Nat) : floatBits .add k x y = floatBits .add k y x := by
  unfold floatBits Format.add
  simp only
  congr 1
  cases k.format.read x <;> cases k.format.read y <;> simp [Datum.sum]
  · rw [Int.min_comm, Int.add_comm, Bool.and_comm]
    simp
  · rename_i s t
    cases s <;> cases t <;> simp

/-- if the squares sum to at most 1, no part is above 2 -/
theorem part_le {A : Int} {z : C2} (h : BdC .f64 A z) (h1 : 0 ≤ A) (h2 : A + A + 1 < 1024) (hl : leB .f64 (sqC z) (one .f64) = true) : BdC .f64 1 z := by
  obtain ⟨⟨hx0, s, m, i, hr, hl1, hl2, hd⟩, ⟨hy0, t, n, j, hr', hl3, hl4, hd'⟩⟩ := h
  have hx : Bd .f64 A z.1 := ⟨hx0, s, m, i, hr, hl1, hl2, hd⟩
  have hy : Bd .f64 A z.2 := ⟨hy0, t, n, j, hr', hl3, hl4, hd'⟩
  obtain ⟨ea, ba⟩ := square_read hx hr h1 (by omega)
  obtain ⟨eb, bb⟩ := square_read hy hr' h1 (by omega)
  obtain ⟨sa, ma, ia, hra⟩ : ∃ s1 m1 e1, FloatKind.f64.format.read (fb .mul .f64 z.1 z.1) = .number s1 m1 e1 := let ⟨_, s1, m1, e1, hr1, _⟩ := ba; ⟨s1, m1, e1, hr1⟩
  obtain ⟨sb, mb, ib, hrb⟩ : ∃ s1 m1 e1, FloatKind.f64.format.read (fb .mul .f64 z.2 z.2) = .number s1 m1 e1 := let ⟨_, s1, m1, e1, hr1, _⟩ := bb; ⟨s1, m1, e1, hr1⟩
  have hsa : sa = false := by rw [ea] at hra; exact nearest_sign hra
  have hsb : sb = false := by rw [eb] at hrb; exact nearest_sign hrb
  subst hsa; subst hsb
  have key : ∀ (m : Nat) (i : Int), dge m i 1 → dge (m * m) (i + i) 2 := fun m i h => dge_mul h h
  constructor
  · refine ⟨hx0, s, m, i, hr, hl1, hl2, ?_⟩
    refine Classical.byContradiction fun hc => ?_
    have hg := key m i (not_dle hc)
    rw [ea] at hra ba
    obtain ⟨m', e', h3, h4, _⟩ := ge_nearest hg (by show -1022 ≤ (2 : Int); omega) ba
    rw [hra] at h3
    injection h3 with _ b c
    subst b; subst c
    rw [← ea] at hra ba
    obtain ⟨m5, e5, h5, h6⟩ := sum_ge ba bb hra hrb (by omega) (by omega) h4 (by omega)
    have h7 := dge_not_le h5 (pw_one .f64) (dge_mono (A := 0 + 1) h6 (by omega))
    unfold sqC at hl
    rw [h7] at hl
    cases hl
  · refine ⟨hy0, t, n, j, hr', hl3, hl4, ?_⟩
    refine Classical.byContradiction fun hc => ?_
    have hg := key n j (not_dle hc)
    rw [eb] at hrb bb
    obtain ⟨m', e', h3, h4, _⟩ := ge_nearest hg (by show -1022 ≤ (2 : Int); omega) bb
    rw [hrb] at h3
    injection h3 with _ b c
    subst b; subst c
    rw [← eb] at hrb bb
    obtain ⟨m5, e5, h5, h6⟩ := sum_ge bb ba hrb hra (by omega) (by omega) h4 (by omega)
    have h7 := dge_not_le h5 (pw_one .f64) (dge_mono (A := 0 + 1) h6 (by omega))
    unfold sqC at hl
    have hcomm : fb .add .f64 (fb .mul .f64 z.1 z.1) (fb .mul .f64 z.2 z.2) = fb .add .f64 (fb .mul .f64 z.2 z.2) (fb .mul .f64 z.1 z.1) := by unfold fb; rw [add_comm']
    rw [hcomm, h7] at hl
    cases hl

/-- what the reference tells of a mode makes it good -/
theorem good_of_spec {m : Md} (hp : BdC .f32 128 m.pole) (hg : BdC .f32 128 m.gain) (hs : leB .f64 (sqC (widC m.pole)) (one .f64) = true)
    (h1 : leB .f64 (absW .f64 (widC m.gain).1) 4652218415073722368 = true) (h2 : leB .f64 (absW .f64 (widC m.gain).2) 4652218415073722368 = true) : GoodMd m := by
  have wp := (wid_ok hp (by decide) (by decide)).2
  have wg := (wid_ok hg (by decide) (by decide)).2
  have p := part_le wp (by decide) (by decide) hs
  have gain : ∀ x : Nat, Bd .f32 128 x → Bd .f64 128 (cv .f32 x .f64) → leB .f64 (absW .f64 (cv .f32 x .f64)) 4652218415073722368 = true → Bd .f32 10 x := fun x hx hw hl => by
    have ha := hw.abs
    obtain ⟨h0, s, mm, e, hr, hl1, hl2, _⟩ := hw
    have hr' := abs_read hr
    have hd := bd_of_le hr' pw_1024 hl
    exact bd_of_widen hx ⟨h0, s, mm, e, hr, hl1, hl2, hd⟩
  exact ⟨⟨bd_of_widen hp.1 p.1, bd_of_widen hp.2 p.2⟩, ⟨gain _ hg.1 wg.1 h1, gain _ hg.2 wg.2 h2⟩, hs⟩

end Go.Proofs.Ytfkbbicacgeiiaa
