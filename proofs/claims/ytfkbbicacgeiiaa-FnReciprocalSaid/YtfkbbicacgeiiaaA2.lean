/- Rows of the call's own: how they are carried on. -/
import Derived.Test.YtfkbbicacgeiiaaG1
namespace Go.Proofs.Ytfkbbicacgeiiaa
open Go.RowKit

theorem grown_row {a w w' : World} {row row' : Option Nat} (h : a.grownBy w row') (hg : w.grownBy w' row) (h1 : ∀ r, row = some r → a.heap.size ≤ r) : a.grownBy w' row' :=
  ⟨hg.os.trans h.os, hg.tape.trans h.tape, hg.output.trans h.output, Nat.le_trans h.size hg.size, fun i hi hn =>
    (hg.block i (Nat.lt_of_lt_of_le hi h.size) (fun e => by have := h1 i e.symm; omega)).trans (h.block i hi hn)⟩

/-- the cursor behind an append to a row that is new to the caller -/
theorem CR.grown {a w w' : World} {g B : Nat} {row : Option Nat} (h : CR a w g B) (hg : w.grownBy w' row) (h1 : ∀ r, row = some r → a.heap.size ≤ r) (hgl : g < a.heap.size) : CR a w' g B := by
  refine ⟨?_, grown_row h.2 hg h1⟩
  have hgw := h.1.lt
  obtain ⟨A, n, c, i, hh, hc, h0, h1', h2, hbytes, hB⟩ := h.1
  have hne : some g ≠ row := fun e => by have := h1 g e.symm; omega
  refine ⟨A, n, c, i, hh, Blk.grown hc hg hne, h0, h1', h2, hbytes.keep fun p hp => ?_, hB⟩
  have hpl : p.block < w.heap.size := by omega
  exact World.cell?_of_block (hg.block p.block hpl (fun e => by have := h1 _ e.symm; omega))

section
variable {w w' : World} {base : Nat} {e : TypeId} {size : Nat} {v : Value} {n : Nat} {xs : List Value}
theorem own_drewN (h : w.ownsRow base e size v n xs) (k : Nat) : (w.drewN k).ownsRow base e size v n xs := h
theorem own_below (h : w.ownsRow base e size v n xs) (hb : Below w.heap.size w w') : w'.ownsRow base e size v n xs :=
  h.kept (row := none) ⟨hb.os, hb.tape, hb.output, hb.size, fun i hi _ => hb.block i hi⟩ (by cases hv : v.ownBlock <;> simp)
theorem own_set (h : w.ownsRow base e size v n xs) {p : Addr} (hne : v.ownBlock ≠ some p.block) (u : Value) : (w.setCell p u).ownsRow base e size v n xs :=
  h.kept (row := some p.block) (only_setCell (World.grownBy.refl _ _) (.inl rfl) u) (.inr hne)
theorem own_grown (h : w.ownsRow base e size v n xs) {row : Option Nat} (hg : w.grownBy w' row) (hne : v.ownBlock ≠ row) : w'.ownsRow base e size v n xs := h.kept hg (.inr hne)
theorem own_form (h : w.ownsRow base e size v n xs) : ∃ A c, v = .slice A n c := by
  rcases h.2 with ⟨rfl, rfl⟩ | ⟨g, cap, cur, rfl, _⟩
  · exact ⟨_, _, rfl⟩
  · exact ⟨_, _, rfl⟩
theorem own_lower {base' : Nat} (h : w.ownsRow base e size v n xs) (hb : base' ≤ base) : w.ownsRow base' e size v n xs := by
  refine ⟨h.1, ?_⟩
  rcases h.2 with hn | ⟨g, cap, cur, rfl, h1, rest⟩
  · exact .inl hn
  · exact .inr ⟨g, cap, cur, rfl, by omega, rest⟩
theorem own_ne {base' size' n' : Nat} {e' : TypeId} {v' : Value} {xs' : List Value} (h : w.ownsRow base e size v n xs) (h' : w.ownsRow base' e' size' v' n' xs') (hne : e ≠ e') : v.ownBlock = none ∨ v.ownBlock ≠ v'.ownBlock := by
  rcases h.2 with ⟨rfl, _⟩ | ⟨g, cap, cur, rfl, _, hg, _⟩
  · exact .inl rfl
  · right
    rcases h'.2 with ⟨rfl, _⟩ | ⟨g', cap', cur', rfl, _, hg', _⟩
    · simp [Value.ownBlock]
    · intro he
      simp [Value.ownBlock] at he
      subst he
      rw [hg] at hg'
      injection hg' with hg'
      injection hg' with _ ht
      exact hne ht
theorem own_base (h : w.ownsRow base e size v n xs) : ∀ r, v.ownBlock = some r → base ≤ r := fun r hr => (h.lt r hr).1
end

/-- a new block reads as its cells -/
theorem reads_new (w : World) (t : TypeId) (size n : Nat) (cs : Array Value) (h : cs.size = n * size) : Reads (w.alloc (.cells cs t)) (w.heap.size + 1) size (some ⟨w.heap.size, 0, none⟩) n cs.toList :=
  ⟨by simpa using h, fun _ => ⟨_, rfl, by simp, fun j u hu => by
    have h := (Blk.new w t cs).cell j
    rw [add_spot, Nat.zero_add, h]
    simpa using hu⟩⟩

end Go.Proofs.Ytfkbbicacgeiiaa
