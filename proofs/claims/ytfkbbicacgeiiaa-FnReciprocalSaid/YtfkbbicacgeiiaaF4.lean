/- Finite words: exact results (times one, plus zero, products with zero), lower bounds, quotients, comparisons. -/
import Derived.Test.YtfkbbicacgeiiaaF3
namespace Go.Proofs.Ytfkbbicacgeiiaa
open Ieee

theorem word_parts (f : Format) {x : Nat} (hx : x < 2 ^ f.width) : x = f.word (x / f.signWeight % 2 == 1) (x % f.signWeight) := by
  have hw : 2 ^ f.width = 2 * f.signWeight := by
    unfold Format.width Format.signWeight
    rw [Nat.add_assoc, Nat.add_comm 1, Nat.pow_succ, Nat.mul_comm]
  have hs := sw_pos f
  rw [hw] at hx
  have hq : x / f.signWeight < 2 := (Nat.div_lt_iff_lt_mul hs).2 hx
  have hd := Nat.div_add_mod x f.signWeight
  unfold Format.word
  rcases Nat.lt_or_ge (x / f.signWeight) 1 with h | h
  · have h0 : x / f.signWeight = 0 := Nat.lt_one_iff.1 h
    rw [h0, Nat.mul_zero, Nat.zero_add] at hd
    simp [h0, hd]
  · have h0 : x / f.signWeight = 1 := Nat.le_antisymm (Nat.le_of_lt_succ hq) h
    rw [h0, Nat.mul_one] at hd
    simp [h0, hd]

theorem binade_le (k : FloatKind) : k.format.binade ≤ k.format.infRung := by cases k <;> decide

/-- what a finite word reads as, and its rung -/
theorem read_number {k : FloatKind} {x : Nat} {s : Bool} {m : Nat} {e : Int} (hx : x < 2 ^ k.format.width) (h : k.format.read x = .number s m e) :
    ∃ r, x = k.format.word s r ∧ r < k.format.infRung ∧ ((r < k.format.binade ∧ m = r ∧ e = k.format.leastPlace) ∨ (k.format.binade ≤ r ∧ m = k.format.binade + r % k.format.binade ∧ e = k.format.leastPlace + (r / k.format.binade - 1 : Nat))) := by
  have hp := word_parts k.format hx
  have hbl := binade_le k
  refine ⟨x % k.format.signWeight, ?_⟩
  unfold Format.read at h
  simp only at h
  split at h
  · rename_i h1
    injection h with a b c
    subst a; subst b; subst c
    exact ⟨hp, by omega, .inl ⟨h1, rfl, rfl⟩⟩
  · rename_i h1
    split at h
    · rename_i h2
      injection h with a b c
      subst a; subst b; subst c
      exact ⟨hp, h2, .inr ⟨by omega, rfl, rfl⟩⟩
    · split at h <;> cases h

theorem log2_shift {m : Nat} (hm : m ≠ 0) (d : Nat) : (m <<< d).log2 = m.log2 + d := by
  rw [Nat.shiftLeft_eq, Nat.log2_eq_iff (Nat.mul_ne_zero hm (Nat.ne_of_gt (Nat.two_pow_pos d))), Nat.pow_add, Nat.add_right_comm, Nat.pow_add]
  have h1 := log2_le hm
  have h2 := log2_lt m
  have hp := Nat.two_pow_pos d
  exact ⟨Nat.mul_le_mul_right _ h1, Nat.mul_lt_mul_of_pos_right h2 hp⟩

/-- a number of the format, written with more digits, is written as its own word -/
theorem exact_word {k : FloatKind} {x : Nat} {s : Bool} {m : Nat} {e : Int} (hx : x < 2 ^ k.format.width) (h : k.format.read x = .number s m e) (d : Nat) :
    k.format.nearest s (m <<< d) (e - d) = x := by
  obtain ⟨r, rfl, hr, hcase⟩ := read_number hx h
  have hbp := b_pos k.format
  by_cases hm : m = 0
  · subst hm
    rw [Nat.zero_shiftLeft, nearest_zero]
    rcases hcase with ⟨_, h2, _⟩ | ⟨_, h2, _⟩
    · rw [← h2]
    · omega
  · have hmd : m <<< d ≠ 0 := by rw [Nat.shiftLeft_eq]; exact Nat.mul_ne_zero hm (Nat.ne_of_gt (Nat.two_pow_pos d))
    rw [nearest_eq _ _ _ _ hmd]
    have hlog := log2_shift hm d
    have hl : lastOf k.format (m <<< d) (e - d) = e := by
      unfold lastOf
      rw [hlog]
      rcases hcase with ⟨h1, h2, h3⟩ | ⟨h1, h2, h3⟩
      · have : m.log2 ≤ k.format.fractionBits := log2_le_of_lt (by
          subst h2; unfold Format.binade at h1; rw [Nat.pow_succ]; omega)
        omega
      · have hlt := Nat.mod_lt r hbp
        have hlogm : m.log2 = k.format.fractionBits := by
          rw [Nat.log2_eq_iff hm, Nat.pow_succ]
          unfold Format.binade at *
          omega
        omega
    have hru : rungOf k.format (m <<< d) (e - d) = (e - k.format.leastPlace).toNat * k.format.binade + m := by
      unfold rungOf
      rw [hl]
      have e1 : (e - d - e).toNat = 0 := by omega
      have e2 : (e - (e - d)).toNat = d := by omega
      rw [e1, e2, Nat.shiftLeft_zero, cut_exact]
    have hrr : rungOf k.format (m <<< d) (e - d) = r := by
      rw [hru]
      rcases hcase with ⟨h1, h2, h3⟩ | ⟨h1, h2, h3⟩
      · have : (e - k.format.leastPlace).toNat = 0 := by omega
        rw [this, Nat.zero_mul, Nat.zero_add, h2]
      · have hq1 : 1 ≤ r / k.format.binade := (Nat.le_div_iff_mul_le hbp).2 (by omega)
        have : (e - k.format.leastPlace).toNat = r / k.format.binade - 1 := by omega
        rw [this, h2, Nat.sub_mul, Nat.one_mul]
        have hdm := Nat.div_add_mod r k.format.binade
        have hge : k.format.binade ≤ r / k.format.binade * k.format.binade := Nat.le_mul_of_pos_left _ (by omega)
        rw [Nat.mul_comm] at hdm
        omega
    rw [hrr, Nat.min_eq_left (Nat.le_of_lt hr)]

theorem Bd.lt {k : FloatKind} {A : Int} {x : Nat} (h : Bd k A x) : x < 2 ^ k.format.width := h.1

/-- the bits of 1 -/
def one : FloatKind → Nat
  | .f32 => 1065353216
  | .f64 => 4607182418800017408

theorem read_one (k : FloatKind) : k.format.read (one k) = .number false (2 ^ k.format.fractionBits) (-(k.format.fractionBits : Int)) := by cases k <;> decide

theorem mul_one' {k : FloatKind} {A : Int} {x : Nat} (hx : Bd k A x) : fb .mul k x (one k) = x := by
  obtain ⟨hlt, s, m, i, hr, _, _, _⟩ := hx
  refine fb_of ?_
  have h := exact_word hlt hr k.format.fractionBits
  simp only [floatBits, Format.mul, hr, read_one, Datum.product, Format.write, Option.map_some]
  rw [Nat.shiftLeft_eq] at h
  rw [Bool.xor_false]
  exact congrArg some h

/-- +0 or -0 -/
def isZ (k : FloatKind) (x : Nat) : Prop := x = k.format.word false 0 ∨ x = k.format.word true 0

theorem isZ_word (k : FloatKind) (s : Bool) : isZ k (k.format.word s 0) := by cases s; exact .inl rfl; exact .inr rfl

theorem inf_pos (k : FloatKind) : 0 < k.format.infRung := by cases k <;> decide

theorem isZ.read {k : FloatKind} {x : Nat} (h : isZ k x) : ∃ s, x = k.format.word s 0 ∧ k.format.read x = .number s 0 k.format.leastPlace := by
  rcases h with rfl | rfl
  · exact ⟨false, rfl, by rw [read_word _ _ (inf_pos k), if_pos (b_pos _)]⟩
  · exact ⟨true, rfl, by rw [read_word _ _ (inf_pos k), if_pos (b_pos _)]⟩

theorem isZ.bd {k : FloatKind} {x : Nat} (h : isZ k x) (A : Int) : Bd k A x := by
  obtain ⟨s, rfl, hr⟩ := h.read
  refine ⟨k.format.word_lt _ (sw_pos _), s, 0, _, hr, Int.le_refl _, by simp, .inl rfl⟩

theorem isZ_nearest (k : FloatKind) (s : Bool) (e : Int) : isZ k (k.format.nearest s 0 e) := by rw [nearest_zero]; exact isZ_word k s

theorem isZ_zero (k : FloatKind) : isZ k 0 := by
  have := isZ_word k false
  simpa [Format.word] using this

theorem isZ_of_read {k : FloatKind} {x : Nat} {s : Bool} {e : Int} (hx : x < 2 ^ k.format.width) (h : k.format.read x = .number s 0 e) : isZ k x := by
  have := exact_word hx h 0
  rw [Nat.zero_shiftLeft] at this
  rw [← this]
  exact isZ_nearest _ _ _

theorem isZ_mul {k : FloatKind} {A : Int} {x y : Nat} (hx : isZ k x) (hy : Bd k A y) : isZ k (fb .mul k x y) := by
  obtain ⟨s, rfl, hr⟩ := hx.read
  obtain ⟨_, t, n, j, hr', _⟩ := hy
  have : floatBits .mul k (k.format.word s 0) y = some (k.format.nearest (s ^^ t) (0 * n) (k.format.leastPlace + j)) := by
    simp [floatBits, Format.mul, hr, hr', Datum.product, Format.write]
  rw [fb_of this, Nat.zero_mul]
  exact isZ_nearest _ _ _

theorem isZ_mul' {k : FloatKind} {A : Int} {x y : Nat} (hx : Bd k A x) (hy : isZ k y) : isZ k (fb .mul k x y) := by
  rw [fb_mul_comm]; exact isZ_mul hy hx

theorem isZ_add {k : FloatKind} {x y : Nat} (hx : isZ k x) (hy : isZ k y) : isZ k (fb .add k x y) := by
  obtain ⟨s, rfl, hr⟩ := hx.read
  obtain ⟨t, rfl, hr'⟩ := hy.read
  have : floatBits .add k (k.format.word s 0) (k.format.word t 0) = some (k.format.nearest (s && t) 0 k.format.leastPlace) := by
    simp [floatBits, Format.add, hr, hr', Datum.sum, Format.write, signed]
  rw [fb_of this]
  exact isZ_nearest _ _ _

theorem isZ_sub {k : FloatKind} {x y : Nat} (hx : isZ k x) (hy : isZ k y) : isZ k (fb .sub k x y) := by
  obtain ⟨s, rfl, hr⟩ := hx.read
  obtain ⟨t, rfl, hr'⟩ := hy.read
  have : floatBits .sub k (k.format.word s 0) (k.format.word t 0) = some (k.format.nearest (s && !t) 0 k.format.leastPlace) := by
    simp [floatBits, Format.sub, hr, hr', Datum.sum, Format.write, signed, opposite_number]
  rw [fb_of this]
  exact isZ_nearest _ _ _

theorem isZ_cv {s d : FloatKind} {x : Nat} (hne : s ≠ d) (hx : isZ s x) : isZ d (cv s x d) := by
  obtain ⟨t, rfl, hr⟩ := hx.read
  have hz := isZ_nearest d t s.format.leastPlace
  obtain ⟨u, hu, hr'⟩ := hz.read
  have h : floatToFloatBits s (s.format.word t 0) d = some (d.format.nearest t 0 s.format.leastPlace) := by
    unfold floatToFloatBits
    rw [if_neg hne]
    have : s.decode (s.format.word t 0) = .number t 0 s.format.leastPlace := hr
    rw [this]
    have h' : d.encode (.number t 0 s.format.leastPlace) = d.format.nearest t 0 s.format.leastPlace := rfl
    have h'' : d.decode (d.format.nearest t 0 s.format.leastPlace) = .number u 0 d.format.leastPlace := hr'
    simp only [h', h'', isInf_number]
    simp
  have h' : cv s (s.format.word t 0) d = d.format.nearest t 0 s.format.leastPlace := by simp [cv, h]
  rw [h']
  exact hz

/-- the same number: the same bits, or zeros both -/
def ZEq (k : FloatKind) (x y : Nat) : Prop := x = y ∨ (isZ k x ∧ isZ k y)

theorem sign_of_signed {s : Bool} {m d : Nat} (hm : m ≠ 0) : signed s m d ≠ 0 ∧ decide (signed s m d < 0) = s := by
  have hp : 0 < m <<< d := by rw [Nat.shiftLeft_eq]; exact Nat.mul_pos (by omega) (Nat.two_pow_pos d)
  unfold signed
  cases s
  · simp only [Bool.false_eq_true, if_false]
    exact ⟨by omega, decide_eq_false (by omega)⟩
  · simp only [if_true]
    exact ⟨by omega, decide_eq_true (by omega)⟩

theorem add_isZ {k : FloatKind} {A : Int} {x z : Nat} (hx : Bd k A x) (hz : isZ k z) : ZEq k (fb .add k x z) x := by
  obtain ⟨hlt, s, m, i, hr, _, _, _⟩ := hx
  by_cases hm : m = 0
  · subst hm
    have hx0 := isZ_of_read hlt hr
    exact .inr ⟨isZ_add hx0 hz, hx0⟩
  · left
    obtain ⟨t, rfl, hr'⟩ := hz.read
    refine fb_of ?_
    obtain ⟨h1, h2⟩ := sign_of_signed (s := s) (d := (i - min i k.format.leastPlace).toNat) hm
    have h0 : signed t 0 (k.format.leastPlace - min i k.format.leastPlace).toNat = 0 := by unfold signed; cases t <;> simp
    have hd : (i - ((i - min i k.format.leastPlace).toNat : Int)) = min i k.format.leastPlace := by omega
    have h := exact_word hlt hr (i - min i k.format.leastPlace).toNat
    rw [hd] at h
    simp only [floatBits, Format.add, hr, hr', Datum.sum, Format.write, Option.map_some, h0, Int.add_zero, h1, if_false, h2, signed_natAbs]
    exact congrArg some h

theorem ZEq.trans {k : FloatKind} {x y z : Nat} (h : ZEq k x y) (h' : ZEq k y z) : ZEq k x z := by
  rcases h with rfl | ⟨a, b⟩
  · exact h'
  · rcases h' with rfl | ⟨c, d⟩
    · exact .inr ⟨a, b⟩
    · exact .inr ⟨a, d⟩

/-- equal numbers compare as equal -/
theorem ZEq.order {k : FloatKind} {A : Int} {x y : Nat} (hx : Bd k A x) (h : ZEq k x y) : k.format.order x y = some .eq := by
  rcases h with rfl | ⟨a, b⟩
  · obtain ⟨_, s, m, i, hr, _⟩ := hx
    simp [Format.order, hr, Datum.order]
  · obtain ⟨s, _, hr⟩ := a.read
    obtain ⟨t, _, hr'⟩ := b.read
    unfold Format.order
    rw [hr, hr']
    have : ∀ (u : Bool) (d : Nat), signed u 0 d = 0 := by intro u d; unfold signed; cases u <;> simp
    simp [Datum.order, this]

end Go.Proofs.Ytfkbbicacgeiiaa
