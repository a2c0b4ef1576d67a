/- The plain law of rooms: ones, and what a shut door leaves. -/
import Derived.Test.YtfkbbicacgeiiaaW17
import Derived.Test.YtfkbbicacgeiiaaW18
namespace Go.Proofs.Ytfkbbicacgeiiaa
open Go.RowKit

theorem prodL_ones (ws : List Nat) (n : Nat) (hl : ws.length = n) (h : ∀ x ∈ ws, Bd .f32 0 x) : prodL ws (List.replicate n (one .f32)) = ws := by
  subst hl
  induction ws with
  | nil => rfl
  | cons a ws ih =>
    have e := ih (fun x hx => h x (by simp [hx]))
    simp only [prodL, List.length_cons, List.replicate_succ, List.zipWith_cons_cons] at e ⊢
    rw [e, mul_one' (h a (by simp))]

theorem one_bd : Bd .f32 0 (one .f32) := ⟨by decide, false, 2 ^ 23, -23, by decide, by decide, by decide, .inr ⟨by decide, by decide⟩⟩

theorem mul_one_some {A : Int} {x : Nat} (h : Bd .f32 A x) (h1 : -126 ≤ A) (h2 : A < 128) : floatBits .mul .f32 x (one .f32) = some x := by
  have h' := (mul_ok h one_bd (by show (-126 : Int) ≤ A + 0; omega) (by show A + 0 < (128 : Int); omega)).1
  rw [mul_one' h] at h'
  exact h'

theorem listen_mul {sm : List Md} {xs : List Nat} (hm : ∀ m ∈ sm, PoleGain m) (hx : ∀ x ∈ xs, Bd .f32 2 x) (m : Nat) (hmn : m ≤ 25) : ∀ i, i < m → ∀ z ∈ statesAt sm xs (i + 1), floatBits .mul .f32 z.1 (one .f32) = some z.1 := by
  intro i hi z hz
  exact mul_one_some (states_bd hm hx (i + 1) (by omega) z hz).1 (by omega) (by omega)

/-- both parts are 0 or -0 -/
def isZC (k : FloatKind) (z : C2) : Prop := isZ k z.1 ∧ isZ k z.2

theorem isZ_sc {g : C2} {x : Nat} {A : Int} (hg : BdC .f32 A g) (hx : isZ .f32 x) : isZC .f32 (scSC g x) := ⟨isZ_mul' hg.1 hx, isZ_mul' hg.2 hx⟩
theorem isZ_sc' {g : C2} {x : Nat} {A : Int} (hg : isZC .f32 g) (hx : Bd .f32 A x) : isZC .f32 (scSC g x) := ⟨isZ_mul hg.1 hx, isZ_mul hg.2 hx⟩
theorem isZ_mulS {z p : C2} {A : Int} (hz : isZC .f32 z) (hp : BdC .f32 A p) (h1 : -1022 ≤ A) (h2 : A < 1024) : isZC .f32 (mulSC z p) := by
  have hw := (wid_ok hp h1 h2).2
  have z1 : isZ .f64 (widC z).1 := isZ_cv (by decide) hz.1
  have z2 : isZ .f64 (widC z).2 := isZ_cv (by decide) hz.2
  exact ⟨isZ_cv (by decide) (isZ_sub (isZ_mul z1 hw.1) (isZ_mul z2 hw.2)), isZ_cv (by decide) (isZ_add (isZ_mul z1 hw.2) (isZ_mul z2 hw.1))⟩

/-- a mode whose gain is 0 -/
def Mute (m : Md) : Prop := BdC .f32 1 m.pole ∧ isZC .f32 m.gain

theorem mute_step {m : Md} {z : C2} {x : Nat} {A : Int} (hm : Mute m) (hz : isZC .f32 z) (hx : Bd .f32 A x) : isZC .f32 (stepC m z x) := by
  have h1 := isZ_mulS hz hm.1 (by decide) (by decide)
  have h2 := isZ_sc' hm.2 hx
  exact ⟨isZ_add h1.1 h2.1, isZ_add h1.2 h2.2⟩

theorem mute_states {ms : List Md} {xs : List Nat} {A : Int} (hm : ∀ m ∈ ms, Mute m) (hx : ∀ x ∈ xs, Bd .f32 A x) (i : Nat) : ∀ z ∈ statesAt ms xs i, isZC .f32 z := by
  induction i with
  | zero =>
    intro z hz
    simp only [statesAt, List.mem_replicate] at hz
    rw [hz.2]
    exact ⟨isZ_zero _, isZ_zero _⟩
  | succ i ih =>
    intro z hz
    obtain ⟨k, hk⟩ := List.mem_iff_getElem?.1 hz
    obtain ⟨m, z0, h1, h2, rfl⟩ := zip_at hk
    have hx0 : Bd .f32 A (xs.getD i 0) := by
      rw [List.getD_eq_getElem?_getD]
      cases hxi : xs[i]? with
      | none => exact (isZ_zero .f32).bd _
      | some y => exact hx y (List.mem_of_getElem? hxi)
    exact mute_step (hm m (List.mem_of_getElem? h1)) (ih z0 (List.mem_of_getElem? h2)) hx0

theorem states_append (ms ms' : List Md) (xs : List Nat) (i : Nat) : statesAt (ms ++ ms') xs i = statesAt ms xs i ++ statesAt ms' xs i := by
  induction i with
  | zero => simp [statesAt, List.replicate_append_replicate]
  | succ i ih =>
    rw [← statesAt_succ, ← statesAt_succ, ← statesAt_succ, ih]
    unfold stepAll
    exact List.zipWith_append (by rw [statesAt_length])

/-- what is added to a sum by states that are 0 -/
theorem sum_mute {zs us : List C2} {B : Int} (h : ∀ z ∈ zs ++ us, BdC .f32 B z) (hB : 0 ≤ B) (hl : B + (zs ++ us).length + 1 < 128) (hu : ∀ z ∈ us, isZC .f32 z) (k : Nat) (hk : k ≤ us.length) :
    ZEq .f32 (outOf ((zs ++ us).take (zs.length + k))) (outOf zs) := by
  induction k with
  | zero => left; rw [Nat.add_zero, List.take_left]
  | succ k ih =>
    have hlen : zs.length + k < (zs ++ us).length := by simp; omega
    have e := outOf_take hlen
    rw [show zs.length + (k + 1) = zs.length + k + 1 by omega, ← e]
    have hz : isZ .f32 ((zs ++ us)[zs.length + k]).1 := by
      have : (zs ++ us)[zs.length + k] = us[k]'(by omega) := by simp
      rw [this]
      exact (hu _ (List.getElem_mem _)).1
    exact (add_isZ (sum_bd h hB hl (zs.length + k) (by omega)) hz).trans (ih (by omega))

theorem ring_mute {ms us : List Md} {xs : List Nat} (hm : ∀ m ∈ ms ++ us, PoleGain m) (hu : ∀ m ∈ us, Mute m) (hx : ∀ x ∈ xs, Bd .f32 2 x) (hl : (ms ++ us).length ≤ 16) (i : Nat) (hi : i < 25) :
    ZEq .f32 (outAt (ms ++ us) xs i) (outAt ms xs i) ∧ Bd .f32 127 (outAt (ms ++ us) xs i) := by
  have hb := states_bd hm hx (i + 1) (by omega)
  have hlen := statesAt_length (ms ++ us) xs (i + 1)
  constructor
  · unfold outAt
    rw [states_append] at hb hlen ⊢
    have h := sum_mute hb (by omega) (by rw [hlen]; omega) (mute_states hu hx (i + 1)) _ (Nat.le_refl _)
    rw [← List.length_append, List.take_length] at h
    exact h
  · exact ring_bd hm hx hl 25 (Nat.le_refl _) _ (by simp only [ringL, List.mem_map, List.mem_range]; exact ⟨i, hi, rfl⟩)

theorem forced_isZ {ws : List Nat} (h : ∀ x ∈ ws, Bd .f32 4 x) : ∀ z ∈ forcedL ws 0, isZ .f32 z := by
  intro z hz
  simp only [forcedL, List.mem_map] at hz
  obtain ⟨x, hx, rfl⟩ := hz
  exact isZ_mul' (h x hx) (isZ_zero _)

theorem prodL_append {a b c d : List Nat} (h : a.length = c.length) : prodL (a ++ b) (c ++ d) = prodL a c ++ prodL b d := by
  unfold prodL
  exact List.zipWith_append h
theorem scaled_append {a b : List Md} {c d : List Nat} (h : a.length = c.length) : scaledMs (a ++ b) (c ++ d) = scaledMs a c ++ scaledMs b d := by
  unfold scaledMs
  exact List.zipWith_append h

theorem prodL_isZ {a b : List Nat} (ha : ∀ x ∈ a, isZ .f32 x) (hb : ∀ x ∈ b, isZ .f32 x) : ∀ x ∈ prodL a b, isZ .f32 x := by
  intro z hz
  induction a generalizing b with
  | nil => simp [prodL] at hz
  | cons p a ih =>
    cases b with
    | nil => simp [prodL] at hz
    | cons q b =>
      simp [prodL] at hz
      rcases hz with rfl | hz
      · exact isZ_mul (ha p (by simp)) ((hb q (by simp)).bd 0)
      · exact ih (fun x hx => ha x (by simp [hx])) (fun x hx => hb x (by simp [hx])) hz

theorem scaled_mute {ms : List Md} {ws : List Nat} (h : ∀ m ∈ ms, GoodMd m) (hx : ∀ x ∈ ws, isZ .f32 x) : ∀ m ∈ scaledMs ms ws, Mute m := by
  intro m hm
  obtain ⟨m0, x, h1, h2, rfl⟩ := mem_scaled hm
  exact ⟨(h m0 h1).pole, isZ_sc (h m0 h1).gain (hx x h2)⟩

end Go.Proofs.Ytfkbbicacgeiiaa
