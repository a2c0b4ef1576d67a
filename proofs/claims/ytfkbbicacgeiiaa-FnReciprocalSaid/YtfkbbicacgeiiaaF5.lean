/- Finite words: quotients, lower bounds, comparisons with powers of two, what is finite. -/
import Derived.Test.YtfkbbicacgeiiaaF4
namespace Go.Proofs.Ytfkbbicacgeiiaa
open Ieee

theorem dle_quot {m n digits : Nat} {i j A B : Int} (hd : 1 ≤ digits) (h : dle m i A) (k : dge n j B) :
    dle (2 * ((m <<< (digits + n.log2 - m.log2)) / n) + ((m <<< (digits + n.log2 - m.log2)) % n != 0).toNat) (i - j - ((digits + n.log2 - m.log2 : Nat) : Int) - 1) (A - B) := by
  by_cases hm : m = 0
  · left; subst hm; simp
  · rcases h with h | ⟨h1, h2⟩
    · exact absurd h hm
    · generalize hmore : digits + n.log2 - m.log2 = more
      have hn : 0 < n := k.1
      rw [Nat.shiftLeft_eq]
      have hD : m * 2 ^ more ≤ 2 ^ ((A - i).toNat + more) := by rw [Nat.pow_add]; exact Nat.mul_le_mul_right _ h2
      have hbool : ∀ b : Bool, b.toNat ≤ 1 := fun b => by cases b <;> simp
      by_cases hc : B ≤ j
      · by_cases hc' : B = j
        · -- n ≥ 1, the bound is met by the quotient itself
          right
          refine ⟨by omega, ?_⟩
          have e1 : (A - B - (i - j - (more : Int) - 1)).toNat = (A - i).toNat + more + 1 := by omega
          rw [e1, Nat.pow_succ]
          rcases Nat.lt_or_ge (m * 2 ^ more / n) (2 ^ ((A - i).toNat + more)) with hl | hg
          · have := hbool (m * 2 ^ more % n != 0)
            omega
          · have h3 : m * 2 ^ more / n ≤ m * 2 ^ more := Nat.div_le_self _ _
            have h4 : 2 ^ ((A - i).toNat + more) * n ≤ m * 2 ^ more := (Nat.le_div_iff_mul_le hn).1 hg
            have hp : 0 < 2 ^ ((A - i).toNat + more) := Nat.two_pow_pos _
            have h5 : 2 ^ ((A - i).toNat + more) ≤ 2 ^ ((A - i).toNat + more) * n := Nat.le_mul_of_pos_right _ hn
            have h6 : m * 2 ^ more = 2 ^ ((A - i).toNat + more) * n := by omega
            have h7 : m * 2 ^ more % n = 0 := by rw [h6]; exact Nat.mul_mod_left _ _
            rw [h7]
            simp
            omega
        · right
          refine ⟨by omega, ?_⟩
          have e1 : (A - B - (i - j - (more : Int) - 1)).toNat = ((A - i).toNat + more + 1) + (j - B).toNat := by omega
          have h3 : m * 2 ^ more / n ≤ m * 2 ^ more := Nat.div_le_self _ _
          have := hbool (m * 2 ^ more % n != 0)
          have h4 : 2 ^ ((A - i).toNat + more + 1) * 2 ≤ 2 ^ (((A - i).toNat + more + 1) + (j - B).toNat) := by
            rw [← Nat.pow_succ]; exact Nat.pow_le_pow_right (by omega) (by omega)
          rw [e1]
          have hp : 0 < 2 ^ ((A - i).toNat + more) := Nat.two_pow_pos _
          have h5 : (2 : Nat) ^ ((A - i).toNat + more + 1) = 2 ^ ((A - i).toNat + more) * 2 := Nat.pow_succ ..
          omega
      · have hb : 2 ^ (B - j).toNat ≤ n := by
          rcases k.2 with h | h
          · omega
          · exact h
        have hlogm : m.log2 ≤ (A - i).toNat := by
          have := Nat.le_trans (log2_le hm) h2
          exact (Nat.pow_le_pow_iff_right (a := 2) (by omega)).1 this
        have hlogn : (B - j).toNat ≤ n.log2 := (Nat.le_log2 (by omega)).2 hb
        have hlogD : n.log2 + 1 ≤ (A - i).toNat + more := by omega
        right
        refine ⟨by omega, ?_⟩
        have e1 : (A - B - (i - j - (more : Int) - 1)).toNat = ((A - i).toNat + more - (B - j).toNat) + 1 := by omega
        rw [e1, Nat.pow_succ]
        generalize hQ : 2 ^ ((A - i).toNat + more - (B - j).toNat) = Q
        have hQb : Q * 2 ^ (B - j).toNat = 2 ^ ((A - i).toNat + more) := by
          rw [← hQ, ← Nat.pow_add]; congr 1; omega
        have hp : 0 < 2 ^ (B - j).toNat := Nat.two_pow_pos _
        rcases Nat.lt_or_ge (m * 2 ^ more / n) Q with hl | hg
        · have := hbool (m * 2 ^ more % n != 0)
          omega
        · have h4 : Q * n ≤ m * 2 ^ more := (Nat.le_div_iff_mul_le hn).1 hg
          have h5 : Q * 2 ^ (B - j).toNat ≤ Q * n := Nat.mul_le_mul_left _ hb
          have h6 : m * 2 ^ more = Q * n := by omega
          have h7 : m * 2 ^ more % n = 0 := by rw [h6]; exact Nat.mul_mod_left _ _
          have h8 : m * 2 ^ more / n = Q := by rw [h6]; exact Nat.mul_div_cancel _ hn
          rw [h7, h8]
          simp
          omega

theorem quo_ok {k : FloatKind} {A : Int} (B : Int) {x y n : Nat} {t : Bool} {j : Int} (hx : Bd k A x) (hy : k.format.read y = .number t n j) (hd : dge n j B) (h1 : lo k ≤ A - B) (h2 : A - B < hi k) :
    floatBits .quo k x y = some (fb .quo k x y) ∧ Bd k (A - B) (fb .quo k x y) := by
  obtain ⟨_, s, m, i, hr, _, _, hdm⟩ := hx
  have hn : n ≠ 0 := by have := hd.1; omega
  have h := dle_quot (digits := k.format.fractionBits + 2) (by omega) hdm hd
  have e : floatBits .quo k x y = some (k.format.nearest (s ^^ t) (2 * ((m <<< (k.format.fractionBits + 2 + n.log2 - m.log2)) / n) + ((m <<< (k.format.fractionBits + 2 + n.log2 - m.log2)) % n != 0).toNat) (i - j - ((k.format.fractionBits + 2 + n.log2 - m.log2 : Nat) : Int) - 1)) := by
    simp only [floatBits, Format.div, hr, hy, Datum.quotient, Format.write, hn, if_false, Option.map_some]
  rw [fb_of e]
  exact ⟨e, bd_nearest h1 h2 h⟩

theorem int_bd {k : FloatKind} {A : Int} {n : Int} (h : n.natAbs ≤ 2 ^ A.toNat) (h0 : 0 ≤ A) (h2 : A < hi k) : Bd k A (floatOfInt k n) := by
  refine bd_nearest (by have := lo_neg k; omega) h2 (.inr ⟨h0, ?_⟩)
  have : (A - 0).toNat = A.toNat := by omega
  rw [this]
  exact h

/-- a word that reads as a number is bounded by the format -/
theorem bd_of_read {k : FloatKind} {x : Nat} {s : Bool} {m : Nat} {e : Int} (hx : x < 2 ^ k.format.width) (h : k.format.read x = .number s m e) : Bd k (hi k) x := by
  obtain ⟨r, _, hr, hcase⟩ := read_number hx h
  have hbp := b_pos k.format
  have hll := least_neg k
  refine ⟨hx, s, m, e, h, ?_, ?_, ?_⟩
  · rcases hcase with ⟨_, _, h3⟩ | ⟨_, _, h3⟩ <;> omega
  · refine log2_le_of_lt ?_
    rcases hcase with ⟨h1, h2, _⟩ | ⟨_, h2, _⟩
    · subst h2; unfold Format.binade at h1; rw [Nat.pow_succ]; omega
    · have := Nat.mod_lt r hbp
      unfold Format.binade at *
      rw [Nat.pow_succ]; omega
  · have hlt : m < 2 ^ (k.format.fractionBits + 1) := by
      rcases hcase with ⟨h1, h2, _⟩ | ⟨_, h2, _⟩
      · subst h2; unfold Format.binade at h1; rw [Nat.pow_succ]; omega
      · have := Nat.mod_lt r hbp
        unfold Format.binade at *
        rw [Nat.pow_succ]; omega
    have he : e + k.format.fractionBits + 1 ≤ hi k := by
      have hq : r / k.format.binade < 2 ^ k.format.exponentBits - 1 := (Nat.div_lt_iff_lt_mul hbp).2 hr
      rcases hcase with ⟨_, _, h3⟩ | ⟨_, _, h3⟩
      · cases k
        · have e1 : (FloatKind.f32.format.leastPlace) = -149 := by decide
          have e2 : (FloatKind.f32.format.fractionBits : Int) = 23 := rfl
          have e3 : hi .f32 = 128 := rfl
          omega
        · have e1 : (FloatKind.f64.format.leastPlace) = -1074 := by decide
          have e2 : (FloatKind.f64.format.fractionBits : Int) = 52 := rfl
          have e3 : hi .f64 = 1024 := rfl
          omega
      · cases k
        · have e1 : (FloatKind.f32.format.leastPlace) = -149 := by decide
          have e2 : (FloatKind.f32.format.fractionBits : Int) = 23 := rfl
          have e3 : hi .f32 = 128 := rfl
          have e4 : 2 ^ FloatKind.f32.format.exponentBits - 1 = 255 := by decide
          rw [e4] at hq
          omega
        · have e1 : (FloatKind.f64.format.leastPlace) = -1074 := by decide
          have e2 : (FloatKind.f64.format.fractionBits : Int) = 52 := rfl
          have e3 : hi .f64 = 1024 := rfl
          have e4 : 2 ^ FloatKind.f64.format.exponentBits - 1 = 2047 := by decide
          rw [e4] at hq
          omega
    refine .inr ⟨by omega, Nat.le_trans (Nat.le_of_lt hlt) (Nat.pow_le_pow_right (by omega) (by omega))⟩

/-- 'x - x' of a number is +0 -/
theorem sub_self' {k : FloatKind} {A : Int} {x : Nat} (h : Bd k A x) : floatBits .sub k x x = some 0 := by
  obtain ⟨_, s, m, e, hr, _⟩ := h
  have h0 : ∀ d, signed s m d + signed (!s) m d = 0 := by
    intro d; unfold signed; cases s <;> simp <;> omega
  simp only [floatBits, Format.sub, hr, Datum.sum, opposite_number, Option.map_some, h0, Format.write, if_true, Int.natAbs_zero, nearest_zero]
  cases s <;> simp [Format.word]

theorem sub_none {k : FloatKind} {x : Nat} (h : ∀ s m e, k.format.read x ≠ .number s m e) : floatBits .sub k x x = none := by
  simp only [floatBits, Format.sub]
  cases hr : k.format.read x with
  | number s m e => exact absurd hr (h s m e)
  | infinity s => cases s <;> simp [Datum.sum, Datum.opposite]
  | nan s t => simp [Datum.sum]

theorem not_dle {m : Nat} {e A : Int} (h : ¬ dle m e A) : dge m e A := by
  unfold dle at h
  have hm : m ≠ 0 := fun h0 => h (.inl h0)
  refine ⟨by omega, ?_⟩
  by_cases he : A ≤ e
  · exact .inl he
  · right
    have : ¬ m ≤ 2 ^ (A - e).toNat := fun h2 => h (.inr ⟨by omega, h2⟩)
    omega

theorem dge_mul {m n : Nat} {i j A B : Int} (h : dge m i A) (k : dge n j B) : dge (m * n) (i + j) (A + B) := by
  obtain ⟨h0, h⟩ := h
  obtain ⟨k0, k⟩ := k
  refine ⟨Nat.mul_pos h0 k0, ?_⟩
  by_cases hc : A + B ≤ i + j
  · exact .inl hc
  · right
    have hm : 2 ^ (A - i).toNat ≤ m := by
      rcases h with h | h
      · have : (A - i).toNat = 0 := by omega
        rw [this]; simp; omega
      · exact h
    have hn : 2 ^ (B - j).toNat ≤ n := by
      rcases k with k | k
      · have : (B - j).toNat = 0 := by omega
        rw [this]; simp; omega
      · exact k
    refine Nat.le_trans ?_ (Nat.mul_le_mul hm hn)
    rw [← Nat.pow_add]
    exact Nat.pow_le_pow_right (by omega) (by omega)

theorem ge_nearest {k : FloatKind} {neg : Bool} {m : Nat} {e A C : Int} (h : dge m e A) (h1 : lo k ≤ A) (hfin : Bd k C (k.format.nearest neg m e)) :
    ∃ m' e', k.format.read (k.format.nearest neg m e) = .number neg m' e' ∧ dge m' e' A ∧ k.format.leastPlace ≤ e' := by
  have hm : m ≠ 0 := by have := h.1; omega
  have hge := rung_ge (f := k.format) h (by rw [lo_eq]; exact h1)
  rw [nearest_eq _ _ _ _ hm] at hfin ⊢
  generalize rungOf k.format m e = r at *
  have hinf : r < k.format.infRung := by
    rcases Nat.lt_or_ge r k.format.infRung with h | h
    · exact h
    · exfalso
      rw [Nat.min_eq_right h] at hfin
      obtain ⟨_, s, m', e', hr, _⟩ := hfin
      have : k.format.read (k.format.word neg k.format.infRung) = .infinity neg := by
        cases k <;> cases neg <;> decide
      rw [this] at hr
      cases hr
  rw [Nat.min_eq_left (Nat.le_of_lt hinf), read_word _ _ hinf]
  have hbp := b_pos k.format
  have hlo := lo_eq k
  have hb : ¬ r < k.format.binade := by
    have : 1 * k.format.binade ≤ ((A - k.format.leastPlace - k.format.fractionBits).toNat + 1) * k.format.binade := Nat.mul_le_mul_right _ (by omega)
    omega
  rw [if_neg hb]
  refine ⟨_, _, rfl, ⟨by omega, ?_⟩, by omega⟩
  have hq : (A - k.format.leastPlace - k.format.fractionBits).toNat + 1 ≤ r / k.format.binade := (Nat.le_div_iff_mul_le hbp).2 hge
  by_cases hc : A ≤ k.format.leastPlace + ((r / k.format.binade - 1 : Nat) : Int)
  · exact .inl hc
  · right
    have : (A - (k.format.leastPlace + ((r / k.format.binade - 1 : Nat) : Int))).toNat ≤ k.format.fractionBits := by omega
    refine Nat.le_trans (Nat.pow_le_pow_right (by omega) this) ?_
    unfold Format.binade
    omega

end Go.Proofs.Ytfkbbicacgeiiaa
