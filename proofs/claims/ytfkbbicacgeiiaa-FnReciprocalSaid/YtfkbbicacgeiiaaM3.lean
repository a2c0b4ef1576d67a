/- Rooms: modes whose gains are multiplied by weights. Plain Lean. -/
import Derived.Test.YtfkbbicacgeiiaaW9
namespace Go.Proofs.Ytfkbbicacgeiiaa
open Go.RowKit

def scMd (m : Md) (x : Nat) : Md := ⟨m.pole, scSC m.gain x⟩
def scaledMs (ms : List Md) (ws : List Nat) : List Md := List.zipWith scMd ms ws
def prodL (xs ys : List Nat) : List Nat := List.zipWith (fb .mul .f32) xs ys

def partMs (ms : List Md) (ws : List Nat) : Nat → List Md
  | 0 => ms
  | i + 1 => match ms[i]?, ws[i]? with
    | some m, some x => (partMs ms ws i).set i (scMd m x)
    | _, _ => partMs ms ws i

theorem partMs_length (ms : List Md) (ws : List Nat) (i : Nat) : (partMs ms ws i).length = ms.length := by
  induction i with
  | zero => rfl
  | succ i ih =>
    unfold partMs
    split
    · simp [ih]
    · exact ih

theorem scaledMs_length {ms : List Md} {ws : List Nat} (h : ws.length = ms.length) : (scaledMs ms ws).length = ms.length := by simp [scaledMs, h]

theorem partMs_at {ms : List Md} {ws : List Nat} (h : ws.length = ms.length) (i j : Nat) (hi : i ≤ ms.length) : (partMs ms ws i)[j]? = if j < i then (scaledMs ms ws)[j]? else ms[j]? := by
  induction i with
  | zero => simp [partMs]
  | succ i ih =>
    have h1 : ms[i]? = some ms[i] := List.getElem?_eq_getElem (by omega)
    have h2 : ws[i]? = some ws[i] := List.getElem?_eq_getElem (by omega)
    unfold partMs
    rw [h1, h2]
    simp only
    rw [List.getElem?_set, partMs_length, ih (by omega)]
    by_cases hij : i = j
    · subst hij
      rw [if_pos rfl, if_pos (by omega), if_pos (by omega)]
      simp [scaledMs, List.getElem?_zipWith, h1, h2]
    · rw [if_neg hij]
      by_cases hj : j < i
      · rw [if_pos hj, if_pos (by omega)]
      · rw [if_neg hj, if_neg (by omega)]

theorem partMs_end {ms : List Md} {ws : List Nat} (h : ws.length = ms.length) : partMs ms ws ms.length = scaledMs ms ws := by
  apply List.ext_getElem?
  intro j
  rw [partMs_at h _ _ (Nat.le_refl _)]
  by_cases hj : j < ms.length
  · rw [if_pos hj]
  · rw [if_neg hj, List.getElem?_eq_none (by omega), List.getElem?_eq_none (by rw [scaledMs_length h]; omega)]

theorem partMs_succ {ms : List Md} {ws : List Nat} (h : ws.length = ms.length) (i : Nat) (hi : i < ms.length) : partMs ms ws (i + 1) = (partMs ms ws i).set i (scMd ms[i] (ws[i]'(by omega))) := by
  have h1 : ms[i]? = some ms[i] := List.getElem?_eq_getElem (by omega)
  have h2 : ws[i]? = some ws[i] := List.getElem?_eq_getElem (by omega)
  conv => lhs; unfold partMs
  rw [h1, h2]

theorem mdCells_cons (m : Md) (ms : List Md) : mdCells (m :: ms) = .complex .f32 m.pole.1 m.pole.2 :: .complex .f32 m.gain.1 m.gain.2 :: mdCells ms := by simp [mdCells]

/-- a store into a gain -/
theorem mdCells_set (ms : List Md) (i : Nat) (m : Md) (z : C2) (h : ms[i]? = some m) : (mdCells ms).set (i * 2 + 1) (.complex .f32 z.1 z.2) = mdCells (ms.set i ⟨m.pole, z⟩) := by
  induction ms generalizing i with
  | nil => simp at h
  | cons a ms ih =>
    cases i with
    | zero =>
      simp at h
      subst h
      simp [mdCells_cons]
    | succ i =>
      simp at h
      have e : (i + 1) * 2 + 1 = i * 2 + 1 + 1 + 1 := by omega
      rw [e, mdCells_cons, List.set_cons_succ, List.set_cons_succ, ih i h, List.set_cons_succ, mdCells_cons]

theorem scMd_good {m : Md} {x : Nat} (h : GoodMd m) (hx : Bd .f32 0 x) : ScOk m.gain x ∧ GoodMd (scMd m x) := by
  have hs := sc_ok h.gain hx (by decide) (by decide)
  exact ⟨hs.1, ⟨h.pole, hs.2, h.sq⟩⟩

theorem mem_scaled {ms : List Md} {ws : List Nat} {m : Md} (h : m ∈ scaledMs ms ws) : ∃ m0 x, m0 ∈ ms ∧ x ∈ ws ∧ m = scMd m0 x := by
  induction ms generalizing ws with
  | nil => simp [scaledMs] at h
  | cons a ms ih =>
    cases ws with
    | nil => simp [scaledMs] at h
    | cons b ws =>
      simp [scaledMs] at h
      rcases h with rfl | h
      · exact ⟨a, b, by simp, by simp, rfl⟩
      · obtain ⟨m0, x, h1, h2, h3⟩ := ih (ws := ws) h
        exact ⟨m0, x, by simp [h1], by simp [h2], h3⟩

theorem scaled_good {ms : List Md} {ws : List Nat} (h : ∀ m ∈ ms, GoodMd m) (hx : ∀ x ∈ ws, Bd .f32 0 x) : ∀ m ∈ scaledMs ms ws, GoodMd m := by
  intro m hm
  obtain ⟨m0, x, h1, h2, rfl⟩ := mem_scaled hm
  exact (scMd_good (h _ h1) (hx _ h2)).2

theorem mul_small {x y : Nat} (hx : Bd .f32 0 x) (hy : Bd .f32 0 y) : floatBits .mul .f32 x y = some (fb .mul .f32 x y) ∧ Bd .f32 0 (fb .mul .f32 x y) := mul_ok hx hy (by decide) (by decide)

theorem prodL_length {xs ys : List Nat} {n : Nat} (hx : xs.length = n) (hy : ys.length = n) : (prodL xs ys).length = n := by simp [prodL, hx, hy]

theorem prodL_bd {xs ys : List Nat} (hx : ∀ x ∈ xs, Bd .f32 0 x) (hy : ∀ x ∈ ys, Bd .f32 0 x) : ∀ x ∈ prodL xs ys, Bd .f32 0 x := by
  intro z hz
  induction xs generalizing ys with
  | nil => simp [prodL] at hz
  | cons a xs ih =>
    cases ys with
    | nil => simp [prodL] at hz
    | cons b ys =>
      simp [prodL] at hz
      rcases hz with rfl | hz
      · exact (mul_small (hx a (by simp)) (hy b (by simp))).2
      · exact ih (fun x h => hx x (by simp [h])) (fun x h => hy x (by simp [h])) hz

theorem prodL_comm (xs ys : List Nat) : prodL xs ys = prodL ys xs := by
  induction xs generalizing ys with
  | nil => simp [prodL]
  | cons a xs ih =>
    cases ys with
    | nil => simp [prodL]
    | cons b ys =>
      have := ih ys
      simp only [prodL, List.zipWith_cons_cons] at this ⊢
      rw [this, fb_mul_comm]

theorem GoodMd.pg {m : Md} (h : GoodMd m) : PoleGain m := ⟨h.pole, h.gain⟩

section
variable {w : World} {base : Nat} {e : TypeId} {size n : Nat} {v : Value} {xs : List Value}
theorem own_some (h : w.ownsRow base e size v n xs) (hn : 0 < n) : ∃ g cap, v = .slice (some ⟨g, 0, none⟩) n cap ∧ base ≤ g ∧ g < w.heap.size := by
  rcases h.2 with ⟨_, h0⟩ | ⟨g, cap, cur, rfl, h1, hg, _⟩
  · omega
  · exact ⟨g, cap, rfl, h1, Blk.lt (t := e) hg⟩
end

end Go.Proofs.Ytfkbbicacgeiiaa
