/- Finite floating-point numbers: bounds by powers of two, exactness, what the operations give. -/
import Derived.Laws.FloatArith
import Derived.Laws.ComplexArith
namespace Go.Proofs.Ytfkbbicacgeiiaa
open Ieee

/-- 'm * 2 ^ e' is at most '2 ^ A'. -/
def dle (m : Nat) (e A : Int) : Prop := m = 0 ∨ (e ≤ A ∧ m ≤ 2 ^ (A - e).toNat)

/-- 'm * 2 ^ e' is at least '2 ^ A'. -/
def dge (m : Nat) (e A : Int) : Prop := 0 < m ∧ (A ≤ e ∨ 2 ^ (A - e).toNat ≤ m)

theorem pow_split {a b c : Int} (h1 : a ≤ b) (h2 : b ≤ c) : (2 : Nat) ^ (c - a).toNat = 2 ^ (c - b).toNat * 2 ^ (b - a).toNat := by
  rw [← Nat.pow_add]; congr 1; omega

theorem dle_mono {m : Nat} {e A B : Int} (h : dle m e A) (hab : A ≤ B) : dle m e B := by
  rcases h with h | ⟨h1, h2⟩
  · exact .inl h
  · exact .inr ⟨by omega, Nat.le_trans h2 (Nat.pow_le_pow_right (by omega) (by omega))⟩

theorem dle_mul {m n : Nat} {i j A B : Int} (h : dle m i A) (k : dle n j B) : dle (m * n) (i + j) (A + B) := by
  rcases h with h | ⟨h1, h2⟩
  · subst h; exact .inl (Nat.zero_mul _)
  · rcases k with k | ⟨k1, k2⟩
    · subst k; exact .inl (Nat.mul_zero _)
    · refine .inr ⟨by omega, ?_⟩
      have : (2 : Nat) ^ (A + B - (i + j)).toNat = 2 ^ (A - i).toNat * 2 ^ (B - j).toNat := by
        rw [← Nat.pow_add]; congr 1; omega
      rw [this]
      exact Nat.mul_le_mul h2 k2

theorem dle_shift {m : Nat} {e A : Int} (d : Nat) : dle (m <<< d) (e - d) A ↔ dle m e A := by
  unfold dle
  rw [Nat.shiftLeft_eq]
  have hp : 0 < 2 ^ d := Nat.two_pow_pos d
  constructor
  · rintro (h | ⟨h1, h2⟩)
    · exact .inl ((Nat.mul_eq_zero.1 h).resolve_right (by omega))
    · by_cases hm : m = 0
      · exact .inl hm
      · by_cases he : e ≤ A
        · refine .inr ⟨he, ?_⟩
          have : (2 : Nat) ^ (A - (e - d)).toNat = 2 ^ (A - e).toNat * 2 ^ d := by rw [← Nat.pow_add]; congr 1; omega
          rw [this] at h2
          exact Nat.le_of_mul_le_mul_right h2 hp
        · exfalso
          have h3 : (A - (e - d)).toNat < d := by omega
          have h4 : (2 : Nat) ^ (A - (e - d)).toNat < 2 ^ d := Nat.pow_lt_pow_right (by omega) h3
          have h5 : 2 ^ d ≤ m * 2 ^ d := Nat.le_mul_of_pos_left _ (by omega)
          omega
  · rintro (h | ⟨h1, h2⟩)
    · exact .inl (by rw [h, Nat.zero_mul])
    · refine .inr ⟨by omega, ?_⟩
      have : (2 : Nat) ^ (A - (e - d)).toNat = 2 ^ (A - e).toNat * 2 ^ d := by rw [← Nat.pow_add]; congr 1; omega
      rw [this]
      exact Nat.mul_le_mul_right _ h2

theorem dle_base {m : Nat} {i A base : Int} (h : dle m i A) (hb : base ≤ i) (hA : base ≤ A) : m <<< (i - base).toNat ≤ 2 ^ (A - base).toNat := by
  have := (dle_shift (m := m) (e := i) (A := A) (i - base).toNat).2 h
  rcases this with h0 | ⟨_, h2⟩
  · rw [h0]; exact Nat.zero_le _
  · have e : (A - (i - ((i - base).toNat : Int))).toNat = (A - base).toNat := by omega
    rwa [e] at h2

theorem of_base {m : Nat} {A base : Int} (hA : base ≤ A) (h : m ≤ 2 ^ (A - base).toNat) : dle m base A := .inr ⟨hA, h⟩

/-- facts of a format that all proofs here use -/
structure FmtOk (f : Format) : Prop where
  frac : 1 ≤ f.fractionBits
  expo : 2 ≤ f.exponentBits
  least : f.leastPlace ≤ -(f.fractionBits : Int)
  /-- '2 ^ top' is below infinity -/
  top : ∀ A : Int, f.leastPlace + f.fractionBits ≤ A → A < 2 ^ (f.exponentBits - 1) → (A - f.leastPlace - f.fractionBits + 1).toNat + 1 ≤ 2 ^ f.exponentBits - 1

theorem single_ok : FmtOk single := by
  refine ⟨by decide, by decide, by decide, ?_⟩
  intro A h1 h2
  have e1 : single.leastPlace = -149 := by decide
  have e2 : (single.fractionBits : Int) = 23 := rfl
  have e3 : (2 : Int) ^ (single.exponentBits - 1) = 128 := by decide
  have e4 : 2 ^ single.exponentBits = 256 := by decide
  rw [e1, e2] at h1
  rw [e3] at h2
  rw [e1, e2, e4]
  omega

theorem double_ok : FmtOk double := by
  refine ⟨by decide, by decide, by decide, ?_⟩
  intro A h1 h2
  have e1 : double.leastPlace = -1074 := by decide
  have e2 : (double.fractionBits : Int) = 52 := rfl
  have e3 : (2 : Int) ^ (double.exponentBits - 1) = 1024 := by decide
  have e4 : 2 ^ double.exponentBits = 2048 := by decide
  rw [e1, e2] at h1
  rw [e3] at h2
  rw [e1, e2, e4]
  omega

theorem fmt_ok (k : FloatKind) : FmtOk k.format := by cases k; exact single_ok; exact double_ok

end Go.Proofs.Ytfkbbicacgeiiaa
