/- The cursor over the bytes of a draw: what its functions give, and what they leave of memory. -/
import Derived.Test.YtfkbbicacgeiiaaRows
import Derived.Test.YtfkbbicacgeiiaaA1
import Derived.WalkKit
import Derived.WalkSpells
import Derived.WalkLawsBesides
import Derived.BigQuiet
import Derived.Deep.QuietTactic
import Derived.Lib.Hide
namespace Go.Proofs.Ytfkbbicacgeiiaa
open Go.RowKit

/-- a slice of bytes that can be read, below block B -/
def BytesAt (w : World) (B : Nat) (A : Option Addr) (n : Nat) : Prop :=
  0 < n → ∃ ad, A = some ad ∧ ad.block < B ∧ ∀ j, j < n → ∃ u : Int, 0 ≤ u ∧ u ≤ 255 ∧ w.cell? (ad.add j) = some (.int .u8 u)

theorem BytesAt.keep {w w' : World} {B n : Nat} {A : Option Addr} (h : BytesAt w B A n) (hk : ∀ p : Addr, p.block < B → w'.cell? p = w.cell? p) : BytesAt w' B A n := fun hn => by
  obtain ⟨ad, e, hb, hc⟩ := h hn
  refine ⟨ad, e, hb, fun j hj => ?_⟩
  obtain ⟨u, h0, h1, h2⟩ := hc j hj
  exact ⟨u, h0, h1, (hk _ (by rw [block_of_add]; exact hb)).trans h2⟩

def CurC (w : World) (g : Nat) (A : Option Addr) (n c : Nat) (i h : Int) : Prop := Blk w g 83 #[.slice A n c, .int .i64 i, .int .i64 h]

/-- block g is a cursor over readable bytes below block B -/
def Cur (w : World) (g B : Nat) : Prop := ∃ A n c i h, CurC w g A n c i h ∧ 0 ≤ i ∧ i ≤ (n : Int) ∧ (n : Int) ≤ 140737488351232 ∧ BytesAt w B A n ∧ B ≤ g

/-- from world w to world w' the cursor has moved, and new memory was made -/
def CR (w w' : World) (g B : Nat) : Prop := Cur w' g B ∧ w.grownBy w' (some g)

theorem Cur.lt {w : World} {g B : Nat} (h : Cur w g B) : g < w.heap.size := by obtain ⟨_, _, _, _, _, h, _⟩ := h; exact Blk.lt h

theorem CR.refl {w : World} {g B : Nat} (h : Cur w g B) : CR w w g B := ⟨h, World.grownBy.refl _ _⟩
theorem CR.trans {a b c : World} {g B : Nat} (h : CR a b g B) (h' : CR b c g B) : CR a c g B := ⟨h'.1, grown_trans' h.2 h'.2⟩
theorem Cur.drewN {w : World} {g B : Nat} (h : Cur w g B) (k : Nat) : Cur (w.drewN k) g B := h
theorem Cur.drew {w : World} {g B : Nat} (h : Cur w g B) : Cur w.drew g B := h
theorem Cur.below {w w' : World} {g B : Nat} (h : Cur w g B) (hb : Below w.heap.size w w') : Cur w' g B := by
  have hg := h.lt
  obtain ⟨A, n, c, i, hh, hc, h0, h1, h2, hbytes, hB⟩ := h
  exact ⟨A, n, c, i, hh, Blk.below hc hb hg, h0, h1, h2, hbytes.keep fun p hp => hb.cell (by omega), hB⟩
theorem Cur.alloc {w : World} {g B : Nat} (h : Cur w g B) (o : Obj) : Cur (w.alloc o) g B := h.below ((Below.refl _ _).alloc (Nat.le_refl _) _)
/-- a store elsewhere, above the bytes -/
theorem Cur.far {w : World} {g B : Nat} (h : Cur w g B) {p : Addr} (hp : g < p.block) (u : Value) : Cur (w.setCell p u) g B := by
  obtain ⟨A, n, c, i, hh, hc, h0, h1, h2, hbytes, hB⟩ := h
  exact ⟨A, n, c, i, hh, Blk.far hc (by omega) u, h0, h1, h2, hbytes.keep fun q hq => World.cell?_setCell_other _ _ _ _ (by rintro rfl; omega), hB⟩
theorem CR.drewN {w w' : World} {g B : Nat} (h : CR w w' g B) (k : Nat) : CR w (w'.drewN k) g B := ⟨h.1, only_drewN h.2 k⟩
theorem CR.drew {w w' : World} {g B : Nat} (h : CR w w' g B) : CR w w'.drew g B := ⟨h.1, only_drew h.2⟩
theorem CR.alloc {w w' : World} {g B : Nat} (h : CR w w' g B) (o : Obj) : CR w (w'.alloc o) g B := ⟨h.1.alloc o, only_alloc h.2 o⟩
theorem CR.below {w w' w'' : World} {g B : Nat} (h : CR w w' g B) (hb : Below w'.heap.size w' w'') : CR w w'' g B := ⟨h.1.below hb, grown_below h.2 hb⟩
theorem CR.set {w w' : World} {g B : Nat} (h : CR w w' g B) (hg : g < w.heap.size) {p : Addr} (hp : w.heap.size ≤ p.block) (u : Value) : CR w (w'.setCell p u) g B :=
  ⟨h.1.far (by omega) u, only_setCell h.2 (.inr hp) u⟩

/-- values of the kinds that the draws give -/
def IntIn (lo hi : Int) (v : Value) : Prop := ∃ x : Int, v = .int .i64 x ∧ lo ≤ x ∧ x ≤ hi
def IsF64 (v : Value) : Prop := ∃ b, v = .float .f64 b ∧ b < 2 ^ FloatKind.f64.format.width
def IsF32 (v : Value) : Prop := ∃ b, v = .float .f32 b ∧ b < 2 ^ FloatKind.f32.format.width
def IsC32 (v : Value) : Prop := ∃ a b, v = .complex .f32 a b ∧ a < 2 ^ FloatKind.f32.format.width ∧ b < 2 ^ FloatKind.f32.format.width
def IsBoolV (v : Value) : Prop := ∃ b, v = .bool b

/-- a draw: it returns such a value, and the cursor has moved -/
def CP (w : World) (g B : Nat) (Q : Value → Prop) (e : Ending) (w' : World) : Prop := (∃ v, e = .returned v ∧ Q v) ∧ CR w w' g B

theorem cur_set {w : World} {g n c : Nat} {A : Option Addr} {i h i' h' : Int} (hb : CurC w g A n c i h) (u v : Value) (hu : u = .int .i64 h') (hv : v = .int .i64 i') (nq : Nat) :
    CurC (((w.setCell ⟨g, 2, none⟩ u).drewN nq).setCell ⟨g, 1, none⟩ v) g A n c i' h' := by
  subst hu; subst hv
  exact ((Blk.set_ hb 2 _).drewN nq).set_ 1 _

set_option maxRecDepth 10000 in
set_option maxHeartbeats 400000 in
theorem w_byte (g B : Nat) (w : World) (hc : Cur w g B) :
    Calls Try.prog 55 #[.pointer (some ⟨g, 0, none⟩)] w (CP w g B (IntIn 0 255)) := by
  obtain ⟨A, n, c, i, h, hblk, h0, h1, h2, hbytes, hB⟩ := hc
  have c0 : w.cell? ⟨g, 0, none⟩ = some (.slice A n c) := Blk.cell hblk 0
  have c1 : w.cell? ⟨g, 1, none⟩ = some (.int .i64 i) := Blk.cell hblk 1
  have c2 : w.cell? ⟨g, 2, none⟩ = some (.int .i64 h) := Blk.cell hblk 2
  have f0 := Blk.frozen hblk 0
  have f1 := Blk.frozen hblk 1
  have f2 := Blk.frozen hblk 2
  have HBL := Lib.hid hblk
  have HBY := Lib.hid hbytes
  obtain ⟨k, rfl⟩ := Int.eq_ofNat_of_zero_le h0
  clear hblk hbytes
  by_cases hk : (k : Int) < n
  · obtain ⟨ad, rfl, hb, hcell⟩ := HBY.out (by omega)
    obtain ⟨u, hu0, hu1, hu⟩ := hcell k (by omega)
    clear hcell
    have hne : ad.block ≠ g := by omega
    have hne2 : ∀ j, (⟨g, j, none⟩ : Addr) ≠ ad.add k := by intro j e; have := congrArg Addr.block e; rw [block_of_add] at this; exact hne this.symm
    have hcu : ∀ (v : Value), (w.setCell ⟨g, 2, none⟩ v).cell? (ad.add k) = some (.int .u8 u) := fun v => (World.cell?_setCell_other _ _ _ _ (hne2 2)).trans hu
    have hu255 : 0 ≤ u ∧ u ≤ 255 := ⟨hu0, hu1⟩
    clear hne2
    go_enter Try.func55, Try.ntmps55
    go_wp2
    generalize wrap64 (wrap64 (h * 6364136223846793005) + 1442695040888963407) = h'
    go_quiet (fail)
    have hx : 0 ≤ bits BinOp.and IntKind.i64 (bits BinOp.xor IntKind.i64 (h' / 8589934592) (h' / 35184372088832)) 255 ∧ bits BinOp.and IntKind.i64 (bits BinOp.xor IntKind.i64 (h' / 8589934592) (h' / 35184372088832)) 255 ≤ 255 := by rw [i64_and255]; omega
    generalize bits BinOp.and IntKind.i64 (bits BinOp.xor IntKind.i64 (h' / 8589934592) (h' / 35184372088832)) 255 = x at *
    go_wp2
    go_quiet (fail)
    go_wp2
    go_quiet (fail)
    have hy : 0 ≤ bits BinOp.and IntKind.i64 (x + u) 255 ∧ bits BinOp.and IntKind.i64 (x + u) 255 ≤ 255 := by rw [i64_and255]; omega
    generalize bits BinOp.and IntKind.i64 (x + u) 255 = y at *
    go_wp2
    go_ret
    refine ⟨⟨_, rfl, y, rfl, hy⟩, ⟨_, _, _, _, _, cur_set (i' := k + 1) HBL.out _ _ rfl (by go_num) _, by omega, by omega, h2, ?_, hB⟩, ?_⟩
    · exact HBY.out.keep fun p hp => (World.cell?_setCell_other _ _ _ _ (by rintro rfl; exact absurd hp (by simp; omega))).trans (World.cell?_setCell_other _ _ _ _ (by rintro rfl; exact absurd hp (by simp; omega)))
    · exact only_setCell (only_drewN (only_setCell (g := g) (World.grownBy.refl _ _) (.inl rfl) _) _) (.inl rfl) _
  · have hk' : decide ((k : Int) < n) = false := decide_eq_false hk
    go_enter Try.func55, Try.ntmps55
    go_wp2
    generalize wrap64 (wrap64 (h * 6364136223846793005) + 1442695040888963407) = h'
    go_quiet (fail)
    have hx : 0 ≤ bits BinOp.and IntKind.i64 (bits BinOp.xor IntKind.i64 (h' / 8589934592) (h' / 35184372088832)) 255 ∧ bits BinOp.and IntKind.i64 (bits BinOp.xor IntKind.i64 (h' / 8589934592) (h' / 35184372088832)) 255 ≤ 255 := by rw [i64_and255]; omega
    generalize bits BinOp.and IntKind.i64 (bits BinOp.xor IntKind.i64 (h' / 8589934592) (h' / 35184372088832)) 255 = x at *
    go_wp2
    go_quiet (fail)
    go_wp2
    go_ret
    refine ⟨⟨_, rfl, x, rfl, hx⟩, ⟨A, n, c, k, h', (show CurC _ g A n c k h' from (Blk.set_ HBL.out 2 _)), h0, h1, h2, ?_, hB⟩, ?_⟩
    · exact HBY.out.keep fun p hp => World.cell?_setCell_other _ _ _ _ (by rintro rfl; exact absurd hp (by simp; omega))
    · exact only_drewN (only_drewN (only_setCell (g := g) (p := ⟨g, 2, none⟩) (World.grownBy.refl _ _) (.inl rfl) _) _) _

end Go.Proofs.Ytfkbbicacgeiiaa
