/- Finite words: what they read as; bounds and exactness of the results of operations. -/
import Derived.Test.YtfkbbicacgeiiaaF2
namespace Go.Proofs.Ytfkbbicacgeiiaa
open Ieee

theorem sw_pos (f : Format) : 0 < f.signWeight := Nat.two_pow_pos _
theorem b_pos (f : Format) : 0 < f.binade := Nat.two_pow_pos _

theorem read_word (f : Format) (neg : Bool) {r : Nat} (h : r < f.infRung) :
    f.read (f.word neg r) = if r < f.binade then .number neg r f.leastPlace else .number neg (f.binade + r % f.binade) (f.leastPlace + (r / f.binade - 1 : Nat)) := by
  have hs := f.infRung_lt
  have h1 : f.word neg r / f.signWeight % 2 = if neg then 1 else 0 := by
    unfold Format.word
    cases neg
    · simp; rw [Nat.div_eq_of_lt (by omega)]
    · simp; rw [Nat.add_div_left _ (sw_pos f), Nat.div_eq_of_lt (by omega)]
  have h2 : f.word neg r % f.signWeight = r := by
    unfold Format.word
    cases neg
    · simp; exact Nat.mod_eq_of_lt (by omega)
    · simp; exact Nat.mod_eq_of_lt (by omega)
  unfold Format.read
  simp only [h1, h2, h, if_true]
  cases neg <;> simp

/-- bits of a finite number that is at most '2 ^ A' in absolute value -/
def Bd (k : FloatKind) (A : Int) (x : Nat) : Prop :=
  x < 2 ^ k.format.width ∧ ∃ s m e, k.format.read x = .number s m e ∧ k.format.leastPlace ≤ e ∧ m.log2 ≤ k.format.fractionBits ∧ dle m e A

theorem Bd.mono {k : FloatKind} {A B : Int} {x : Nat} (h : Bd k A x) (hab : A ≤ B) : Bd k B x :=
  let ⟨h0, s, m, e, hr, hl, hg, hd⟩ := h; ⟨h0, s, m, e, hr, hl, hg, dle_mono hd hab⟩

/-- the exponents of the formats: from 'lo' on the powers of two are normal, below 'hi' finite -/
def lo : FloatKind → Int
  | .f32 => -126
  | .f64 => -1022
def hi : FloatKind → Int
  | .f32 => 128
  | .f64 => 1024

theorem lo_eq (k : FloatKind) : k.format.leastPlace + k.format.fractionBits = lo k := by cases k <;> decide
theorem hi_eq (k : FloatKind) : (2 : Int) ^ (k.format.exponentBits - 1) = hi k := by cases k <;> decide
theorem lo_neg (k : FloatKind) : lo k < 0 := by cases k <;> decide
theorem least_neg (k : FloatKind) : k.format.leastPlace < 0 := by cases k <;> decide

theorem top_rung (k : FloatKind) {A : Int} (h1 : lo k ≤ A) (h2 : A < hi k) :
    ((A - k.format.leastPlace - k.format.fractionBits).toNat + 1) * k.format.binade < k.format.infRung := by
  have hlo := lo_eq k
  have h := (fmt_ok k).top A (by rw [lo_eq]; exact h1) (by rw [hi_eq]; exact h2)
  unfold Format.infRung
  refine Nat.mul_lt_mul_of_pos_right ?_ (b_pos _)
  omega

theorem log2_le_of_lt {m n : Nat} (h : m < 2 ^ (n + 1)) : m.log2 ≤ n := by
  by_cases hm : m = 0
  · subst hm; simp
  · have := (Nat.log2_lt hm).2 h
    omega

theorem bd_rung {k : FloatKind} {neg : Bool} {r : Nat} {A : Int} (h1 : lo k ≤ A) (h2 : A < hi k)
    (h : r ≤ ((A - k.format.leastPlace - k.format.fractionBits).toNat + 1) * k.format.binade) : Bd k A (k.format.word neg r) := by
  have hinf := Nat.lt_of_le_of_lt h (top_rung k h1 h2)
  have hlo := lo_eq k
  refine ⟨k.format.word_lt neg (Nat.lt_trans hinf k.format.infRung_lt), ?_⟩
  have hbp := b_pos k.format
  by_cases hb : r < k.format.binade
  · refine ⟨neg, r, k.format.leastPlace, by rw [read_word _ _ hinf, if_pos hb], Int.le_refl _, ?_, ?_⟩
    · refine log2_le_of_lt ?_
      unfold Format.binade at hb
      exact Nat.lt_of_lt_of_le hb (Nat.pow_le_pow_right (by omega) (by omega))
    · refine .inr ⟨by omega, ?_⟩
      unfold Format.binade at hb
      exact Nat.le_trans (Nat.le_of_lt hb) (Nat.pow_le_pow_right (by omega) (by omega))
  · refine ⟨neg, k.format.binade + r % k.format.binade, k.format.leastPlace + (r / k.format.binade - 1 : Nat), by rw [read_word _ _ hinf, if_neg hb], by omega, ?_, ?_⟩
    · refine log2_le_of_lt ?_
      have := Nat.mod_lt r hbp
      unfold Format.binade at *
      rw [Nat.pow_succ]
      omega
    · have hq : r / k.format.binade ≤ (A - k.format.leastPlace - k.format.fractionBits).toNat + 1 := by
        have := Nat.div_le_div_right (c := k.format.binade) h
        rwa [Nat.mul_div_cancel _ hbp] at this
      have hq1 : 1 ≤ r / k.format.binade := (Nat.le_div_iff_mul_le hbp).2 (by omega)
      by_cases he : r / k.format.binade = (A - k.format.leastPlace - k.format.fractionBits).toNat + 1
      · have hr : r = ((A - k.format.leastPlace - k.format.fractionBits).toNat + 1) * k.format.binade := by
          have := Nat.div_mul_le_self r k.format.binade
          rw [he] at this
          omega
        have hm : r % k.format.binade = 0 := by rw [hr]; exact Nat.mul_mod_left _ _
        rw [hm, he]
        refine .inr ⟨by omega, ?_⟩
        have : (A - (k.format.leastPlace + (((A - k.format.leastPlace - k.format.fractionBits).toNat + 1 - 1 : Nat) : Int))).toNat = k.format.fractionBits := by omega
        rw [this]
        unfold Format.binade
        omega
      · refine .inr ⟨by omega, ?_⟩
        have hlt := Nat.mod_lt r hbp
        have h3 : k.format.binade + r % k.format.binade ≤ 2 ^ (k.format.fractionBits + 1) := by
          unfold Format.binade at *
          rw [Nat.pow_succ]
          omega
        exact Nat.le_trans h3 (Nat.pow_le_pow_right (by omega) (by omega))

theorem bd_nearest {k : FloatKind} {neg : Bool} {m : Nat} {e A : Int} (h1 : lo k ≤ A) (h2 : A < hi k) (h : dle m e A) : Bd k A (k.format.nearest neg m e) := by
  by_cases hm : m = 0
  · subst hm
    rw [nearest_zero]
    exact bd_rung h1 h2 (Nat.zero_le _)
  · rw [nearest_eq _ _ _ _ hm]
    have hle := rung_le (f := k.format) hm h (by rw [lo_eq]; exact h1)
    rw [Nat.min_eq_left (Nat.le_of_lt (Nat.lt_of_le_of_lt hle (top_rung k h1 h2)))]
    exact bd_rung h1 h2 hle

/-- the bits that an operation gives, where it gives any -/
def fb (op : BinOp) (k : FloatKind) (x y : Nat) : Nat := (floatBits op k x y).getD 0
/-- the bits that a conversion gives, where it gives any -/
def cv (s : FloatKind) (x : Nat) (d : FloatKind) : Nat := (floatToFloatBits s x d).getD 0

theorem fb_of {op : BinOp} {k : FloatKind} {x y r : Nat} (h : floatBits op k x y = some r) : fb op k x y = r := by simp [fb, h]

theorem mul_ok {k : FloatKind} {A B : Int} {x y : Nat} (hx : Bd k A x) (hy : Bd k B y) (h1 : lo k ≤ A + B) (h2 : A + B < hi k) :
    floatBits .mul k x y = some (fb .mul k x y) ∧ Bd k (A + B) (fb .mul k x y) := by
  obtain ⟨_, s, m, i, hr, _, _, hd⟩ := hx
  obtain ⟨_, t, n, j, hr', _, _, hd'⟩ := hy
  have h : floatBits .mul k x y = some (k.format.nearest (s ^^ t) (m * n) (i + j)) := by
    simp [floatBits, Format.mul, hr, hr', Datum.product, Format.write]
  rw [fb_of h]
  exact ⟨h, bd_nearest h1 h2 (dle_mul hd hd')⟩

theorem signed_natAbs (s : Bool) (m up : Nat) : (signed s m up).natAbs = m <<< up := by
  unfold signed
  cases s
  · exact Int.natAbs_natCast _
  · exact (Int.natAbs_neg _).trans (Int.natAbs_natCast _)

theorem dle_sum {s t : Bool} {m n : Nat} {i j A B : Int} (hd : dle m i A) (hd' : dle n j B) (h1 : min i j ≤ max A B) :
    dle (signed s m (i - min i j).toNat + signed t n (j - min i j).toNat).natAbs (min i j) (max A B + 1) := by
  have a1 := dle_base (base := min i j) (dle_mono hd (Int.le_max_left A B)) (Int.min_le_left i j) h1
  have a2 := dle_base (base := min i j) (dle_mono hd' (Int.le_max_right A B)) (Int.min_le_right i j) h1
  refine of_base (by omega) ?_
  have h3 : (signed s m (i - min i j).toNat + signed t n (j - min i j).toNat).natAbs ≤ m <<< (i - min i j).toNat + n <<< (j - min i j).toNat := by
    refine Nat.le_trans (Int.natAbs_add_le _ _) ?_
    rw [signed_natAbs, signed_natAbs]
    exact Nat.le_refl _
  have h4 : (max A B + 1 - min i j).toNat = (max A B - min i j).toNat + 1 := by omega
  rw [h4, Nat.pow_succ]
  omega

theorem opposite_number (s : Bool) (m : Nat) (e : Int) : (Datum.number s m e).opposite = .number (!s) m e := rfl

theorem dle_any {m : Nat} {e A B : Int} (h : dle m e A) (hB : A ≤ B) : dle m e B := dle_mono h hB

/-- zero may stand at any place: so a sum's base may lie above a bound: then the number is zero -/
theorem sum_ok {k : FloatKind} {A B C : Int} {x y : Nat} (hx : Bd k A x) (hy : Bd k B y) (hA : A + 1 ≤ C) (hB : B + 1 ≤ C) (h1 : lo k < C) (h2 : C < hi k) :
    ∃ s t m n i j, k.format.read x = .number s m i ∧ k.format.read y = .number t n j ∧
      Bd k C (k.format.nearest (if signed s m (i - min i j).toNat + signed t n (j - min i j).toNat = 0 then s && t else decide (signed s m (i - min i j).toNat + signed t n (j - min i j).toNat < 0)) (signed s m (i - min i j).toNat + signed t n (j - min i j).toNat).natAbs (min i j)) ∧
      Bd k C (k.format.nearest (if signed s m (i - min i j).toNat + signed (!t) n (j - min i j).toNat = 0 then s && (!t) else decide (signed s m (i - min i j).toNat + signed (!t) n (j - min i j).toNat < 0)) (signed s m (i - min i j).toNat + signed (!t) n (j - min i j).toNat).natAbs (min i j)) := by
  obtain ⟨_, s, m, i, hr, _, _, hd⟩ := hx
  obtain ⟨_, t, n, j, hr', _, _, hd'⟩ := hy
  refine ⟨s, t, m, n, i, j, hr, hr', ?_⟩
  have key : ∀ t' : Bool, dle (signed s m (i - min i j).toNat + signed t' n (j - min i j).toNat).natAbs (min i j) C := by
    intro t'
    by_cases hc : min i j ≤ C - 1
    · have := dle_sum (s := s) (t := t') (A := C - 1) (B := C - 1) (dle_mono hd (by omega)) (dle_mono hd' (by omega)) (by omega)
      exact dle_mono this (by omega)
    · have hm : m = 0 := by
        rcases hd with h | ⟨h, _⟩
        · exact h
        · omega
      have hn : n = 0 := by
        rcases hd' with h | ⟨h, _⟩
        · exact h
        · omega
      subst hm; subst hn
      left
      simp [signed]
  exact ⟨bd_nearest (by omega) h2 (key t), bd_nearest (by omega) h2 (key (!t))⟩

theorem add_ok {k : FloatKind} {A B : Int} (C : Int) {x y : Nat} (hx : Bd k A x) (hy : Bd k B y) (hA : A + 1 ≤ C) (hB : B + 1 ≤ C) (h1 : lo k < C) (h2 : C < hi k) :
    floatBits .add k x y = some (fb .add k x y) ∧ Bd k C (fb .add k x y) := by
  obtain ⟨s, t, m, n, i, j, hr, hr', h, _⟩ := sum_ok hx hy hA hB h1 h2
  have e : floatBits .add k x y = some (k.format.nearest (if signed s m (i - min i j).toNat + signed t n (j - min i j).toNat = 0 then s && t else decide (signed s m (i - min i j).toNat + signed t n (j - min i j).toNat < 0)) (signed s m (i - min i j).toNat + signed t n (j - min i j).toNat).natAbs (min i j)) := by
    simp [floatBits, Format.add, hr, hr', Datum.sum, Format.write]
  rw [fb_of e]
  exact ⟨e, h⟩

theorem sub_ok {k : FloatKind} {A B : Int} (C : Int) {x y : Nat} (hx : Bd k A x) (hy : Bd k B y) (hA : A + 1 ≤ C) (hB : B + 1 ≤ C) (h1 : lo k < C) (h2 : C < hi k) :
    floatBits .sub k x y = some (fb .sub k x y) ∧ Bd k C (fb .sub k x y) := by
  obtain ⟨s, t, m, n, i, j, hr, hr', _, h⟩ := sum_ok hx hy hA hB h1 h2
  have e : floatBits .sub k x y = some (k.format.nearest (if signed s m (i - min i j).toNat + signed (!t) n (j - min i j).toNat = 0 then s && (!t) else decide (signed s m (i - min i j).toNat + signed (!t) n (j - min i j).toNat < 0)) (signed s m (i - min i j).toNat + signed (!t) n (j - min i j).toNat).natAbs (min i j)) := by
    simp [floatBits, Format.sub, hr, hr', Datum.sum, Format.write, opposite_number]
  rw [fb_of e]
  exact ⟨e, h⟩

theorem isInf_number {s : Bool} {m : Nat} {e : Int} : (Datum.number s m e).isInfinity = false := rfl

/-- a conversion between the kinds, within the target's range -/
theorem conv_ok {s d : FloatKind} {A : Int} {x : Nat} (hne : s ≠ d) (hx : Bd s A x) (h1 : lo d ≤ A) (h2 : A < hi d) :
    floatToFloatBits s x d = some (cv s x d) ∧ Bd d A (cv s x d) := by
  obtain ⟨_, t, m, e, hr, _, _, hd⟩ := hx
  have hb := bd_nearest (k := d) (neg := t) h1 h2 hd
  have h : floatToFloatBits s x d = some (d.format.nearest t m e) := by
    obtain ⟨_, t', m', e', hr', _⟩ := hb
    unfold floatToFloatBits
    rw [if_neg hne]
    have : s.decode x = .number t m e := hr
    rw [this]
    have h' : d.encode (.number t m e) = d.format.nearest t m e := rfl
    have h'' : d.decode (d.format.nearest t m e) = .number t' m' e' := hr'
    simp only [h', h'', isInf_number]
    simp
  have h' : cv s x d = d.format.nearest t m e := by simp [cv, h]
  rw [h']
  exact ⟨h, hb⟩

theorem mul_comm' (k : FloatKind) (x y : Nat) : floatBits .mul k x y = floatBits .mul k y x := by
  unfold floatBits Format.mul
  simp only
  congr 1
  cases k.format.read x <;> cases k.format.read y <;> simp [Datum.product, Nat.mul_comm, Int.add_comm, Bool.xor_comm]

theorem fb_mul_comm (k : FloatKind) (x y : Nat) : fb .mul k x y = fb .mul k y x := by unfold fb; rw [mul_comm']

end Go.Proofs.Ytfkbbicacgeiiaa
