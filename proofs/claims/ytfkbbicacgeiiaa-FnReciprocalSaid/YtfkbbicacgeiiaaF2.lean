/- Rounding: what 'nearest' gives lies within every power of two that bounds the exact value; exact values stay. -/
import Derived.Test.YtfkbbicacgeiiaaF1
namespace Go.Proofs.Ytfkbbicacgeiiaa
open Ieee

theorem cut_unfold (neg : Bool) (n drop : Nat) : Toward.even.cut neg n drop =
    n / 2 ^ min drop (n.log2 + 2) + (decide (2 ^ min drop (n.log2 + 2) < 2 * (n % 2 ^ min drop (n.log2 + 2))) ||
      (2 ^ min drop (n.log2 + 2) == 2 * (n % 2 ^ min drop (n.log2 + 2)) && (n / 2 ^ min drop (n.log2 + 2)) % 2 == 1)).toNat := by
  simp [Toward.cut, Nat.shiftLeft_eq]

theorem cut_le {neg : Bool} {n drop k : Nat} (h : n ≤ 2 ^ k * 2 ^ drop) : Toward.even.cut neg n drop ≤ 2 ^ k := by
  rw [cut_unfold]
  by_cases hm : drop ≤ n.log2 + 2
  · rw [Nat.min_eq_left hm]
    have hp : 0 < 2 ^ drop := Nat.two_pow_pos _
    rcases Nat.lt_or_ge (n / 2 ^ drop) (2 ^ k) with hl | hg
    · have : ∀ b : Bool, b.toNat ≤ 1 := fun b => by cases b <;> simp
      have := this (decide (2 ^ drop < 2 * (n % 2 ^ drop)) || (2 ^ drop == 2 * (n % 2 ^ drop) && (n / 2 ^ drop) % 2 == 1))
      omega
    · have h1 : 2 ^ k * 2 ^ drop ≤ n := (Nat.le_div_iff_mul_le hp).1 hg
      have h2 : n = 2 ^ k * 2 ^ drop := Nat.le_antisymm h h1
      have h3 : n % 2 ^ drop = 0 := by rw [h2]; exact Nat.mul_mod_left _ _
      have h4 : n / 2 ^ drop = 2 ^ k := by rw [h2]; exact Nat.mul_div_cancel _ hp
      rw [h3, h4]
      have h5 : (2 ^ drop == 2 * 0) = false := by simp
      simp [h5]
  · rw [Nat.min_eq_right (by omega)]
    have hlt : n < 2 ^ (n.log2 + 1) := Nat.lt_log2_self
    have h2 : (2 : Nat) ^ (n.log2 + 2) = 2 * 2 ^ (n.log2 + 1) := by rw [Nat.pow_succ]; omega
    have h0 : n / 2 ^ (n.log2 + 2) = 0 := Nat.div_eq_of_lt (by omega)
    have h1 : n % 2 ^ (n.log2 + 2) = n := Nat.mod_eq_of_lt (by omega)
    rw [h0, h1]
    have h3 : decide (2 ^ (n.log2 + 2) < 2 * n) = false := by simp; omega
    have h4 : (2 ^ (n.log2 + 2) == 2 * n) = false := by simp; omega
    rw [h3, h4]
    simp

theorem cut_ge {neg : Bool} {n drop k : Nat} (h : 2 ^ k * 2 ^ drop ≤ n) : 2 ^ k ≤ Toward.even.cut neg n drop := by
  rw [cut_unfold]
  have hp : 0 < 2 ^ drop := Nat.two_pow_pos _
  have hk : 0 < 2 ^ k := Nat.two_pow_pos _
  have hn : 2 ^ drop ≤ n := Nat.le_trans (Nat.le_mul_of_pos_left _ hk) h
  have hn0 : n ≠ 0 := by omega
  have hm : drop ≤ n.log2 + 2 := by have := (Nat.le_log2 hn0).2 hn; omega
  rw [Nat.min_eq_left hm]
  have := (Nat.le_div_iff_mul_le hp).2 h
  omega

theorem cut_exact {neg : Bool} (m d : Nat) : Toward.even.cut neg (m <<< d) d = m := by
  rw [cut_unfold]
  have hp : 0 < 2 ^ d := Nat.two_pow_pos _
  by_cases hm : m = 0
  · subst hm; simp
  · have h1 : d ≤ (m <<< d).log2 := by
      rw [Nat.le_log2 (by rw [Nat.shiftLeft_eq]; exact Nat.mul_ne_zero hm (by omega)), Nat.shiftLeft_eq]
      exact Nat.le_mul_of_pos_left _ (by omega)
    rw [Nat.min_eq_left (by omega), Nat.shiftLeft_eq, Nat.mul_mod_left, Nat.mul_div_cancel _ hp]
    have h5 : (2 ^ d == 2 * 0) = false := by simp
    simp [h5]

theorem kept_le {neg : Bool} {m : Nat} {e last : Int} {k : Nat} (h : dle m e (k + last)) :
    Toward.even.cut neg (m <<< (e - last).toNat) (last - e).toNat ≤ 2 ^ k := by
  refine cut_le ?_
  rw [Nat.shiftLeft_eq]
  rcases h with h | ⟨h1, h2⟩
  · rw [h, Nat.zero_mul]; exact Nat.zero_le _
  · by_cases he : last ≤ e
    · have e1 : (last - e).toNat = 0 := by omega
      rw [e1, Nat.pow_zero, Nat.mul_one]
      have : (2 : Nat) ^ k = 2 ^ ((k : Int) + last - e).toNat * 2 ^ (e - last).toNat := by rw [← Nat.pow_add]; congr 1; omega
      rw [this]
      exact Nat.mul_le_mul_right _ h2
    · have e1 : (e - last).toNat = 0 := by omega
      rw [e1, Nat.pow_zero, Nat.mul_one, ← Nat.pow_add]
      have e2 : ((k : Int) + last - e).toNat = k + (last - e).toNat := by omega
      rwa [e2] at h2

theorem kept_ge {neg : Bool} {m : Nat} {e last : Int} {k : Nat} (h : dge m e (k + last)) :
    2 ^ k ≤ Toward.even.cut neg (m <<< (e - last).toNat) (last - e).toNat := by
  refine cut_ge ?_
  rw [Nat.shiftLeft_eq, ← Nat.pow_add]
  obtain ⟨h0, h⟩ := h
  rcases h with h | h
  · have e1 : (last - e).toNat = 0 := by omega
    rw [e1, Nat.add_zero]
    exact Nat.le_trans (Nat.pow_le_pow_right (by omega) (by omega)) (Nat.le_mul_of_pos_left _ h0)
  · by_cases hc : (k : Int) + last ≤ e
    · have e1 : (last - e).toNat = 0 := by omega
      rw [e1, Nat.add_zero]
      exact Nat.le_trans (Nat.pow_le_pow_right (by omega) (by omega)) (Nat.le_mul_of_pos_left _ h0)
    · by_cases he : last ≤ e
      · have : (2 : Nat) ^ (k + (last - e).toNat) = 2 ^ ((k : Int) + last - e).toNat * 2 ^ (e - last).toNat := by rw [← Nat.pow_add]; congr 1; omega
        rw [this]
        exact Nat.mul_le_mul_right _ h
      · have e1 : (e - last).toNat = 0 := by omega
        have e2 : ((k : Int) + last - e).toNat = k + (last - e).toNat := by omega
        rw [e1, Nat.pow_zero, Nat.mul_one]
        rwa [e2] at h

/-- the place of the last digit that is kept -/
def lastOf (f : Format) (m : Nat) (e : Int) : Int := max (e + m.log2 - f.fractionBits) f.leastPlace

/-- the rung before the cap -/
def rungOf (f : Format) (m : Nat) (e : Int) : Nat :=
  (lastOf f m e - f.leastPlace).toNat * f.binade + Toward.even.cut false (m <<< (e - lastOf f m e).toNat) (lastOf f m e - e).toNat

theorem cut_sign (neg : Bool) (n d : Nat) : Toward.even.cut neg n d = Toward.even.cut false n d := by rw [cut_unfold, cut_unfold]

theorem nearest_eq (f : Format) (neg : Bool) (m : Nat) (e : Int) (hm : m ≠ 0) : f.nearest neg m e = f.word neg (min (rungOf f m e) f.infRung) := by
  unfold Format.nearest rungOf lastOf
  simp only [hm, if_false]
  rw [cut_sign]

theorem nearest_zero (f : Format) (neg : Bool) (e : Int) : f.nearest neg 0 e = f.word neg 0 := by simp [Format.nearest]

theorem log2_lt (m : Nat) : m < 2 ^ (m.log2 + 1) := Nat.lt_log2_self
theorem log2_le {m : Nat} (h : m ≠ 0) : 2 ^ m.log2 ≤ m := Nat.log2_self_le h

theorem dle_log {m : Nat} {e A : Int} (hm : m ≠ 0) (h : dle m e A) : e + m.log2 ≤ A := by
  rcases h with h | ⟨h1, h2⟩
  · exact absurd h hm
  · have h3 : 2 ^ m.log2 ≤ 2 ^ (A - e).toNat := Nat.le_trans (log2_le hm) h2
    have := (Nat.pow_le_pow_iff_right (a := 2) (by omega)).1 h3
    omega

theorem rung_le {f : Format} {m : Nat} {e A : Int} (hm : m ≠ 0) (h : dle m e A) (hA : f.leastPlace + f.fractionBits ≤ A) :
    rungOf f m e ≤ ((A - f.leastPlace - f.fractionBits).toNat + 1) * f.binade := by
  have hl := dle_log hm h
  unfold rungOf
  have hlast : lastOf f m e ≤ A - f.fractionBits := by unfold lastOf; omega
  have hge : f.leastPlace ≤ lastOf f m e := by unfold lastOf; omega
  have hge2 : e + m.log2 - f.fractionBits ≤ lastOf f m e := by unfold lastOf; omega
  generalize hL : lastOf f m e = last at *
  by_cases hc : last ≤ A - 1 - f.fractionBits
  · have hk : Toward.even.cut false (m <<< (e - last).toNat) (last - e).toNat ≤ 2 ^ (f.fractionBits + 1) := by
      refine kept_le (dle_mono (A := e + (m.log2 + 1)) (.inr ⟨by omega, ?_⟩) (by omega))
      have : (e + (m.log2 + 1 : Int) - e).toNat = m.log2 + 1 := by omega
      rw [this]
      exact Nat.le_of_lt (log2_lt m)
    have hb : 2 ^ (f.fractionBits + 1) = 2 * f.binade := by unfold Format.binade; rw [Nat.pow_succ]; omega
    rw [hb] at hk
    have : (last - f.leastPlace).toNat + 2 ≤ (A - f.leastPlace - f.fractionBits).toNat + 1 := by omega
    have := Nat.mul_le_mul_right f.binade this
    rw [Nat.add_mul] at this
    omega
  · have hlast' : last = A - f.fractionBits := by omega
    have hk : Toward.even.cut false (m <<< (e - last).toNat) (last - e).toNat ≤ 2 ^ f.fractionBits := by
      refine kept_le (dle_mono h (by omega))
    have : (last - f.leastPlace).toNat = (A - f.leastPlace - f.fractionBits).toNat := by omega
    rw [this, Nat.add_mul, Nat.one_mul]
    exact Nat.add_le_add_left hk _

theorem rung_ge {f : Format} {m : Nat} {e A : Int} (h : dge m e A) (hA : f.leastPlace + f.fractionBits ≤ A) :
    ((A - f.leastPlace - f.fractionBits).toNat + 1) * f.binade ≤ rungOf f m e := by
  have hm : m ≠ 0 := by have := h.1; omega
  have hl : A ≤ e + m.log2 := by
    rcases h.2 with h2 | h2
    · omega
    · have := (Nat.le_log2 hm).2 h2
      omega
  unfold rungOf
  have hlast : A - f.fractionBits ≤ lastOf f m e := by unfold lastOf; omega
  have heq : lastOf f m e = e + m.log2 - f.fractionBits := by unfold lastOf; omega
  generalize lastOf f m e = last at *
  have hk : 2 ^ f.fractionBits ≤ Toward.even.cut false (m <<< (e - last).toNat) (last - e).toNat := by
    refine kept_ge ⟨by omega, .inr ?_⟩
    have : ((f.fractionBits : Int) + last - e).toNat = m.log2 := by omega
    rw [this]
    exact log2_le hm
  have : (A - f.leastPlace - f.fractionBits).toNat ≤ (last - f.leastPlace).toNat := by omega
  have := Nat.mul_le_mul_right f.binade this
  rw [Nat.add_mul, Nat.one_mul]
  unfold Format.binade at *
  omega

/-- an exact value keeps its digits -/
theorem rung_exact {f : Format} {m : Nat} {e : Int} (he : f.leastPlace ≤ e) (hlog : m.log2 ≤ f.fractionBits) :
    rungOf f m e = (lastOf f m e - f.leastPlace).toNat * f.binade + m <<< (e - lastOf f m e).toNat ∧ lastOf f m e ≤ e := by
  have hle : lastOf f m e ≤ e := by unfold lastOf; omega
  refine ⟨?_, hle⟩
  unfold rungOf
  have e1 : (lastOf f m e - e).toNat = 0 := by omega
  rw [e1]
  have := cut_exact (neg := false) (m <<< (e - lastOf f m e).toNat) 0
  rw [Nat.shiftLeft_zero] at this
  rw [this]

end Go.Proofs.Ytfkbbicacgeiiaa
