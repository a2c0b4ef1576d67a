/- Finite words: exact conversions, absolute values, comparisons; what a mode's conditions say. -/
import Derived.Test.YtfkbbicacgeiiaaM1
import Derived.Test.YtfkbbicacgeiiaaF5
namespace Go.Proofs.Ytfkbbicacgeiiaa
open Ieee

theorem shift_lt {m d n : Nat} (h : m.log2 + d ≤ n) : m <<< d < 2 ^ (n + 1) := by
  rw [Nat.shiftLeft_eq]
  have h1 := log2_lt m
  have hp := Nat.two_pow_pos d
  have h2 : m * 2 ^ d < 2 ^ (m.log2 + 1) * 2 ^ d := Nat.mul_lt_mul_of_pos_right h1 hp
  rw [← Nat.pow_add] at h2
  exact Nat.lt_of_lt_of_le h2 (Nat.pow_le_pow_right (by omega) (by omega))

theorem shift_ge {m d n : Nat} (hm : m ≠ 0) (h : n ≤ m.log2 + d) : 2 ^ n ≤ m <<< d := by
  rw [Nat.shiftLeft_eq]
  have h1 := log2_le hm
  refine Nat.le_trans (Nat.pow_le_pow_right (by omega) h) ?_
  rw [Nat.pow_add]
  exact Nat.mul_le_mul_right _ h1

/-- an exact value reads as itself, perhaps with more digits -/
theorem exact_read {k : FloatKind} {s : Bool} {m : Nat} {e A : Int} (he : k.format.leastPlace ≤ e) (hlog : m.log2 ≤ k.format.fractionBits) (h1 : lo k ≤ A) (h2 : A < hi k) (hd : dle m e A) :
    ∃ d : Nat, k.format.read (k.format.nearest s m e) = .number s (m <<< d) (e - d) := by
  by_cases hm : m = 0
  · subst hm
    rw [nearest_zero, read_word _ _ (inf_pos k), if_pos (b_pos _)]
    refine ⟨(e - k.format.leastPlace).toNat, ?_⟩
    rw [Nat.zero_shiftLeft]
    congr 1
    omega
  · have hle := rung_le (f := k.format) hm hd (by rw [lo_eq]; exact h1)
    have hinf := Nat.lt_of_le_of_lt hle (top_rung k h1 h2)
    obtain ⟨hru, hlast⟩ := rung_exact (f := k.format) (m := m) he hlog
    rw [nearest_eq _ _ _ _ hm, Nat.min_eq_left (Nat.le_of_lt hinf), read_word _ _ hinf]
    have hge : k.format.leastPlace ≤ lastOf k.format m e := by unfold lastOf; omega
    have hge2 : e + m.log2 - k.format.fractionBits ≤ lastOf k.format m e := by unfold lastOf; omega
    have hcase : lastOf k.format m e = k.format.leastPlace ∨ lastOf k.format m e = e + m.log2 - k.format.fractionBits := by unfold lastOf; omega
    have hk2 : m <<< (e - lastOf k.format m e).toNat < 2 ^ (k.format.fractionBits + 1) := shift_lt (by omega)
    have hk1 : lastOf k.format m e ≠ k.format.leastPlace → k.format.binade ≤ m <<< (e - lastOf k.format m e).toNat := fun hne => by
      unfold Format.binade
      exact shift_ge hm (by omega)
    rw [hru]
    generalize lastOf k.format m e = last at *
    have hbp := b_pos k.format
    have hb2 : 2 ^ (k.format.fractionBits + 1) = 2 * k.format.binade := by unfold Format.binade; rw [Nat.pow_succ]; omega
    rw [hb2] at hk2
    refine ⟨(e - last).toNat, ?_⟩
    have hed : (e - ((e - last).toNat : Int)) = last := by omega
    rw [hed]
    generalize m <<< (e - last).toNat = kept at *
    by_cases hl : last = k.format.leastPlace
    · have h0 : (last - k.format.leastPlace).toNat = 0 := by omega
      rw [h0, Nat.zero_mul, Nat.zero_add]
      by_cases hb : kept < k.format.binade
      · rw [if_pos hb, hl]
      · rw [if_neg hb]
        have hd1 : kept / k.format.binade = 1 := Nat.div_eq_of_lt_le (by omega) (by omega)
        have hd2 : kept % k.format.binade = kept - k.format.binade := by
          rw [Nat.mod_eq_sub_mod (by omega), Nat.mod_eq_of_lt (by omega)]
        rw [hd1, hd2]
        congr 1
        · omega
        · omega
    · have hk := hk1 hl
      have hn : ¬ (last - k.format.leastPlace).toNat * k.format.binade + kept < k.format.binade := by omega
      rw [if_neg hn]
      have hd1 : ((last - k.format.leastPlace).toNat * k.format.binade + kept) / k.format.binade = (last - k.format.leastPlace).toNat + 1 := by
        rw [Nat.add_comm, Nat.add_mul_div_right _ _ hbp]
        have : kept / k.format.binade = 1 := Nat.div_eq_of_lt_le (by omega) (by omega)
        omega
      have hd2 : ((last - k.format.leastPlace).toNat * k.format.binade + kept) % k.format.binade = kept - k.format.binade := by
        rw [Nat.add_comm, Nat.add_mul_mod_self_right, Nat.mod_eq_sub_mod (by omega), Nat.mod_eq_of_lt (by omega)]
      rw [hd1, hd2]
      congr 1
      · omega
      · omega

/-- widening is exact -/
theorem widen_read {A : Int} {x : Nat} (hx : Bd .f32 A x) {s : Bool} {m : Nat} {e : Int} (hr : FloatKind.f32.format.read x = .number s m e) :
    ∃ d : Nat, FloatKind.f64.format.read (cv .f32 x .f64) = .number s (m <<< d) (e - d) := by
  have hfin := bd_of_read hx.lt hr
  have hc := (conv_ok (d := .f64) (by decide) hfin (by decide) (by decide)).1
  obtain ⟨_, s', m', e', hr', hl, hg, hd⟩ := hfin
  rw [hr] at hr'
  injection hr' with a b c
  subst a; subst b; subst c
  have he : FloatKind.f32.format.leastPlace = -149 := by decide
  have he' : FloatKind.f64.format.leastPlace = -1074 := by decide
  have hf : FloatKind.f32.format.fractionBits = 23 := rfl
  have hf' : FloatKind.f64.format.fractionBits = 52 := rfl
  have hz : cv .f32 x .f64 = FloatKind.f64.format.nearest s m e := by
    have hb := bd_nearest (k := .f64) (neg := s) (by decide) (by decide) hd
    obtain ⟨_, t', m2, e2, hr2, _⟩ := hb
    have : floatToFloatBits .f32 x .f64 = some (FloatKind.f64.format.nearest s m e) := by
      unfold floatToFloatBits
      rw [if_neg (by decide)]
      have h0 : FloatKind.f32.decode x = .number s m e := hr
      rw [h0]
      have h' : FloatKind.f64.encode (.number s m e) = FloatKind.f64.format.nearest s m e := rfl
      have h'' : FloatKind.f64.decode (FloatKind.f64.format.nearest s m e) = .number t' m2 e2 := hr2
      simp only [h', h'', isInf_number]
      simp
    simp [cv, this]
  rw [hz]
  exact exact_read (by omega) (by omega) (by decide) (by decide) hd

/-- so the bounds are the same -/
theorem bd_of_widen {A C : Int} {x : Nat} (hx : Bd .f32 C x) (h : Bd .f64 A (cv .f32 x .f64)) : Bd .f32 A x := by
  have hx' := hx
  obtain ⟨h0, s, m, e, hr, hl, hg, _⟩ := hx
  obtain ⟨d, hr'⟩ := widen_read hx' hr
  obtain ⟨_, s', m', e', hr2, _, _, hd2⟩ := h
  rw [hr'] at hr2
  injection hr2 with a b c
  subst b; subst c
  exact ⟨h0, s, m, e, hr, hl, hg, (dle_shift d).1 hd2⟩

/-- the order of two words, as Go's comparisons use it -/
def leB (k : FloatKind) (x y : Nat) : Bool := k.format.order x y == some .lt || k.format.order x y == some .eq
def ltB (k : FloatKind) (x y : Nat) : Bool := k.format.order x y == some .lt
def gtB (k : FloatKind) (x y : Nat) : Bool := k.format.order x y == some .gt
def eqB (k : FloatKind) (x y : Nat) : Bool := k.format.order x y == some .eq

/-- the constant 2 ^ B -/
def pw (k : FloatKind) (y : Nat) (B : Int) : Prop := k.format.read y = .number false (2 ^ k.format.fractionBits) (B - k.format.fractionBits)

theorem pw_one (k : FloatKind) : pw k (one k) 0 := by unfold pw; rw [read_one]; congr 1; omega
theorem pw_1024 : pw .f64 4652218415073722368 10 := by unfold pw; decide
theorem pw_16 : pw .f64 4625196817309499392 4 := by unfold pw; decide

theorem signed_le (s : Bool) (m d : Nat) : signed s m d ≤ ((m <<< d : Nat) : Int) := by
  unfold signed
  generalize m <<< d = n
  cases s <;> simp only [Bool.false_eq_true, if_false, if_true] <;> omega

theorem compare_cases (a b : Int) : (compare a b = .lt ∧ a < b) ∨ (compare a b = .eq ∧ a = b) ∨ (compare a b = .gt ∧ b < a) := by
  have := Int.lt_trichotomy a b
  rcases this with h | h | h
  · left; exact ⟨by simp [compare, compareOfLessAndEq, h], h⟩
  · right; left; exact ⟨by simp [compare, compareOfLessAndEq, h], h⟩
  · right; right; refine ⟨?_, h⟩
    have h1 : ¬ a < b := by omega
    have h2 : a ≠ b := by omega
    simp [compare, compareOfLessAndEq, h1, h2]

theorem order_numbers {k : FloatKind} {x y : Nat} {s t : Bool} {m n : Nat} {i j : Int} (hx : k.format.read x = .number s m i) (hy : k.format.read y = .number t n j) :
    k.format.order x y = some (compare (signed s m (i - min i j).toNat) (signed t n (j - min i j).toNat)) := by
  unfold Format.order
  rw [hx, hy]
  rfl

/-- a number that is at most 2 ^ B compares so -/
theorem not_gt_of_bd {k : FloatKind} {x y : Nat} {B : Int} (hx : Bd k B x) (hy : pw k y B) : gtB k x y = false ∧ leB k x y = true := by
  obtain ⟨_, s, m, i, hr, _, _, hd⟩ := hx
  have ho := order_numbers hr hy
  have hle : signed s m (i - min i (B - k.format.fractionBits)).toNat ≤ signed false (2 ^ k.format.fractionBits) (B - k.format.fractionBits - min i (B - k.format.fractionBits)).toNat := by
    refine Int.le_trans (signed_le _ _ _) ?_
    have : signed false (2 ^ k.format.fractionBits) (B - k.format.fractionBits - min i (B - k.format.fractionBits)).toNat = ((2 ^ k.format.fractionBits <<< (B - k.format.fractionBits - min i (B - k.format.fractionBits)).toNat : Nat) : Int) := by
      unfold signed; simp only [Bool.false_eq_true, if_false]
    rw [this]
    have h1 := dle_base (base := min i (B - k.format.fractionBits)) hd (Int.min_le_left _ _) (by omega)
    have h2 : (2 : Nat) ^ k.format.fractionBits <<< (B - k.format.fractionBits - min i (B - k.format.fractionBits)).toNat = 2 ^ (B - min i (B - k.format.fractionBits)).toNat := by
      rw [Nat.shiftLeft_eq, ← Nat.pow_add]; congr 1; omega
    rw [h2]
    exact_mod_cast h1
  unfold gtB leB
  rw [ho]
  rcases compare_cases (signed s m (i - min i (B - k.format.fractionBits)).toNat) (signed false (2 ^ k.format.fractionBits) (B - k.format.fractionBits - min i (B - k.format.fractionBits)).toNat) with ⟨h, _⟩ | ⟨h, _⟩ | ⟨_, h⟩
  · rw [h]; exact ⟨rfl, rfl⟩
  · rw [h]; exact ⟨rfl, rfl⟩
  · omega

/-- and one that compares so, if it is not negative, is at most 2 ^ B -/
theorem bd_of_le {k : FloatKind} {x y : Nat} {B : Int} {m : Nat} {i : Int} (hr : k.format.read x = .number false m i) (hy : pw k y B) (h : leB k x y = true) : dle m i B := by
  have ho := order_numbers hr hy
  unfold leB at h
  rw [ho] at h
  have hle : signed false m (i - min i (B - k.format.fractionBits)).toNat ≤ signed false (2 ^ k.format.fractionBits) (B - k.format.fractionBits - min i (B - k.format.fractionBits)).toNat := by
    rcases compare_cases (signed false m (i - min i (B - k.format.fractionBits)).toNat) (signed false (2 ^ k.format.fractionBits) (B - k.format.fractionBits - min i (B - k.format.fractionBits)).toNat) with ⟨_, h1⟩ | ⟨_, h1⟩ | ⟨h1, _⟩
    · omega
    · omega
    · rw [h1] at h; exact absurd h (by decide)
  unfold signed at hle
  simp only [Bool.false_eq_true, if_false] at hle
  have hle' : m <<< (i - min i (B - k.format.fractionBits)).toNat ≤ 2 ^ k.format.fractionBits <<< (B - k.format.fractionBits - min i (B - k.format.fractionBits)).toNat := by exact_mod_cast hle
  have h2 : (2 : Nat) ^ k.format.fractionBits <<< (B - k.format.fractionBits - min i (B - k.format.fractionBits)).toNat = 2 ^ (B - min i (B - k.format.fractionBits)).toNat := by
    rw [Nat.shiftLeft_eq, ← Nat.pow_add]; congr 1; omega
  rw [h2] at hle'
  have h3 := of_base (A := B) (base := min i (B - k.format.fractionBits)) (by omega) hle'
  have h4 : min i (B - k.format.fractionBits) = i - ((i - min i (B - k.format.fractionBits)).toNat : Int) := by omega
  rw [h4] at h3
  have h5 : (i - (i - ((i - min i (B - k.format.fractionBits)).toNat : Int))).toNat = (i - min i (B - k.format.fractionBits)).toNat := by omega
  rw [h5] at h3
  exact (dle_shift _).1 h3

theorem dge_not_le {k : FloatKind} {x y : Nat} {B : Int} {m : Nat} {i : Int} (hr : k.format.read x = .number false m i) (hy : pw k y B) (h : dge m i (B + 1)) : leB k x y = false := by
  cases hl : leB k x y with
  | false => rfl
  | true =>
    exfalso
    have hd := bd_of_le hr hy hl
    obtain ⟨h0, h⟩ := h
    rcases hd with hd | ⟨hd1, hd2⟩
    · omega
    · rcases h with h | h
      · omega
      · have : (B + 1 - i).toNat = (B - i).toNat + 1 := by omega
        rw [this, Nat.pow_succ] at h
        have := Nat.two_pow_pos (B - i).toNat
        omega

end Go.Proofs.Ytfkbbicacgeiiaa
