/- The plain model of ringing: states, outputs, and that no operation meets a NaN. -/
import Derived.Test.YtfkbbicacgeiiaaM1
import Derived.Test.YtfkbbicacgeiiaaF7
namespace Go.Proofs.Ytfkbbicacgeiiaa

/-- the states behind a step -/
def stepAll (ms : List Md) (zs : List C2) (x : Nat) : List C2 := List.zipWith (fun m z => stepC m z x) ms zs
/-- the output: the sum over the real parts -/
def outOf (zs : List C2) : Nat := zs.foldl (fun s z => fb .add .f32 s z.1) 0

def statesAt (ms : List Md) (xs : List Nat) : Nat → List C2
  | 0 => List.replicate ms.length (0, 0)
  | i + 1 => stepAll ms (statesAt ms xs i) (xs.getD i 0)

def outAt (ms : List Md) (xs : List Nat) (i : Nat) : Nat := outOf (statesAt ms xs (i + 1))
def ringL (ms : List Md) (xs : List Nat) (n : Nat) : List Nat := (List.range n).map (outAt ms xs)

theorem stepAll_length {ms : List Md} {zs : List C2} {x : Nat} (h : zs.length = ms.length) : (stepAll ms zs x).length = ms.length := by simp [stepAll, h]

theorem statesAt_length (ms : List Md) (xs : List Nat) (i : Nat) : (statesAt ms xs i).length = ms.length := by
  induction i with
  | zero => simp [statesAt]
  | succ i ih => exact stepAll_length ih

theorem ringL_succ (ms : List Md) (xs : List Nat) (n : Nat) : ringL ms xs (n + 1) = ringL ms xs n ++ [outAt ms xs n] := by simp [ringL, List.range_succ]
theorem ringL_length (ms : List Md) (xs : List Nat) (n : Nat) : (ringL ms xs n).length = n := by simp [ringL]

/-- what a step asks -/
def StepsOk (ms : List Md) (zs : List C2) (x : Nat) : Prop := ∀ (k : Nat) (m : Md) (z : C2), ms[k]? = some m → zs[k]? = some z → StepOk m z x
/-- what the sum asks -/
def SumOk (zs : List C2) : Prop := ∀ (k : Nat) (z : C2), zs[k]? = some z → floatBits .add .f32 (outOf (zs.take k)) z.1 = some (fb .add .f32 (outOf (zs.take k)) z.1)

def RingOk (ms : List Md) (xs : List Nat) (n : Nat) : Prop := ∀ i, i < n → StepsOk ms (statesAt ms xs i) (xs.getD i 0) ∧ SumOk (statesAt ms xs (i + 1))

theorem step_ok {m : Md} {z : C2} {x : Nat} {B X : Int} (C : Int) (hp : BdC .f32 1 m.pole) (hg : BdC .f32 10 m.gain) (hz : BdC .f32 B z) (hx : Bd .f32 X x) (hB : 0 ≤ B) (hX : 0 ≤ X) (h1 : B + 3 ≤ C) (h2 : X + 11 ≤ C) (hC : C < 128) :
    StepOk m z x ∧ BdC .f32 C (stepC m z x) := by
  have a := mulS_ok hz hp (by omega) (by omega) (by omega) (by omega) (by omega) (show B + 1 + 1 < 128 by omega)
  have b := sc_ok hg hx (by omega) (show 10 + X < 128 by omega)
  have c := addS_ok C a.2 b.2 (by omega) (by omega) (by omega) hC
  exact ⟨⟨a.1, b.1, c.1⟩, c.2⟩

theorem zip_at {ms : List Md} {zs : List C2} {x k : Nat} {z : C2} (h : (stepAll ms zs x)[k]? = some z) : ∃ m z0, ms[k]? = some m ∧ zs[k]? = some z0 ∧ z = stepC m z0 x := by
  unfold stepAll at h
  rw [List.getElem?_zipWith] at h
  cases hm : ms[k]? with
  | none => rw [hm] at h; simp at h
  | some m =>
    cases hz : zs[k]? with
    | none => rw [hm, hz] at h; simp at h
    | some z0 => rw [hm, hz] at h; simp at h; exact ⟨m, z0, rfl, rfl, h.symm⟩

/-- a mode's bounds, in the list's own words -/
def PoleGain (m : Md) : Prop := BdC .f32 1 m.pole ∧ BdC .f32 10 m.gain

theorem states_bd {ms : List Md} {xs : List Nat} (hm : ∀ m ∈ ms, PoleGain m) (hx : ∀ x ∈ xs, Bd .f32 2 x) (i : Nat) (hi : (i : Int) ≤ 30) :
    ∀ z ∈ statesAt ms xs i, BdC .f32 (13 + 3 * i) z := by
  induction i with
  | zero =>
    intro z hz
    simp only [statesAt, List.mem_replicate] at hz
    rw [hz.2]
    exact ⟨(isZ_zero .f32).bd _, (isZ_zero .f32).bd _⟩
  | succ i ih =>
    intro z hz
    obtain ⟨k, hk⟩ := List.mem_iff_getElem?.1 hz
    obtain ⟨m, z0, h1, h2, rfl⟩ := zip_at hk
    have hpg := hm m (List.mem_of_getElem? h1)
    have hz0 := ih (by omega) z0 (List.mem_of_getElem? h2)
    have hx0 : Bd .f32 2 (xs.getD i 0) := by
      rw [List.getD_eq_getElem?_getD]
      cases hxi : xs[i]? with
      | none => exact (isZ_zero .f32).bd _
      | some y => exact hx y (List.mem_of_getElem? hxi)
    exact (step_ok (13 + 3 * (i + 1 : Nat)) hpg.1 hpg.2 hz0 hx0 (by omega) (by omega) (by omega) (by omega) (by omega)).2

theorem sum_bd {zs : List C2} {B : Int} (h : ∀ z ∈ zs, BdC .f32 B z) (hB : 0 ≤ B) (hl : B + zs.length + 1 < 128) (k : Nat) (hk : k ≤ zs.length) : Bd .f32 (B + k) (outOf (zs.take k)) := by
  induction k with
  | zero => exact (isZ_zero .f32).bd _
  | succ k ih =>
    have hk' : k < zs.length := by omega
    rw [List.take_succ_eq_append_getElem hk']
    have : outOf (zs.take k ++ [zs[k]]) = fb .add .f32 (outOf (zs.take k)) zs[k].1 := by unfold outOf; rw [List.foldl_append]; rfl
    rw [this]
    exact (add_ok (B + (k + 1 : Nat)) (ih (by omega)) (h zs[k] (List.getElem_mem hk')).1 (by omega) (by omega) (by show (-126 : Int) < _; omega) (by show _ < (128 : Int); omega)).2

theorem sum_ok' {zs : List C2} {B : Int} (h : ∀ z ∈ zs, BdC .f32 B z) (hB : 0 ≤ B) (hl : B + zs.length + 1 < 128) : SumOk zs := by
  intro k z hk
  have hk' : k < zs.length := (List.getElem?_eq_some_iff.1 hk).1
  have hs := sum_bd h hB hl k (by omega)
  exact (add_ok (B + (k + 1 : Nat)) hs (h z (List.mem_of_getElem? hk)).1 (by omega) (by omega) (by show (-126 : Int) < _; omega) (by show _ < (128 : Int); omega)).1

theorem ring_ok {ms : List Md} {xs : List Nat} (hm : ∀ m ∈ ms, PoleGain m) (hx : ∀ x ∈ xs, Bd .f32 2 x) (hl : ms.length ≤ 16) (n : Nat) (hn : n ≤ 25) : RingOk ms xs n := by
  intro i hi
  refine ⟨fun k m z h1 h2 => ?_, ?_⟩
  · have hpg := hm m (List.mem_of_getElem? h1)
    have hz0 := states_bd hm hx i (by omega) z (List.mem_of_getElem? h2)
    have hx0 : Bd .f32 2 (xs.getD i 0) := by
      rw [List.getD_eq_getElem?_getD]
      cases hxi : xs[i]? with
      | none => exact (isZ_zero .f32).bd _
      | some y => exact hx y (List.mem_of_getElem? hxi)
    exact (step_ok (13 + 3 * (i + 1 : Nat)) hpg.1 hpg.2 hz0 hx0 (by omega) (by omega) (by omega) (by omega) (by omega)).1
  · exact sum_ok' (states_bd hm hx (i + 1) (by omega)) (by omega) (by rw [statesAt_length]; omega)

/-- the outputs are finite -/
theorem ring_bd {ms : List Md} {xs : List Nat} (hm : ∀ m ∈ ms, PoleGain m) (hx : ∀ x ∈ xs, Bd .f32 2 x) (hl : ms.length ≤ 16) (n : Nat) (hn : n ≤ 25) : ∀ y ∈ ringL ms xs n, Bd .f32 127 y := by
  intro y hy
  simp only [ringL, List.mem_map, List.mem_range] at hy
  obtain ⟨i, hi, rfl⟩ := hy
  have h := sum_bd (states_bd hm hx (i + 1) (by omega)) (by omega) (by rw [statesAt_length]; omega) (statesAt ms xs (i + 1)).length (Nat.le_refl _)
  rw [List.take_of_length_le (Nat.le_refl _), statesAt_length] at h
  exact h.mono (by omega)

end Go.Proofs.Ytfkbbicacgeiiaa
