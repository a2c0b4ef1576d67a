/- Any floating-point operation, a NaN's bits off the tape: as a rule of the walk. And the bits of integers. -/
import Derived.Test.YtfkbbicacgeiiaaW00
import Derived.Laws.FloatArith
import Derived.Laws.Bits128
namespace Go.Proofs.Ytfkbbicacgeiiaa
open Go.RowKit

def nanOf (k : FloatKind) (x y : Nat) (W : World) : Nat := Question.cut (.nanBits k x y) (W.tape W.drawn (.nanBits k x y))
def anyBits (op : BinOp) (k : FloatKind) (x y : Nat) (W : World) : Nat := match floatBits op k x y with | some r => r | none => nanOf k x y W
def anyDraw (op : BinOp) (k : FloatKind) (x y : Nat) : Nat := if (floatBits op k x y).isSome then 0 else 1

theorem run_any {P : Program} (W : World) (op : BinOp) (hop : op = .add ∨ op = .sub ∨ op = .mul ∨ op = .quo) (t : TypeId) (k : FloatKind) (x y : Nat) :
    (binOp op t (.float k x) (.float k y)).run P W = .ok (.float k (anyBits op k x y W)) (W.drewN (anyDraw op k x y)) := by
  unfold anyBits anyDraw
  cases h : floatBits op k x y with
  | some r => simp only [Option.isSome_some, if_true]; exact run_float_arith W op t k x y r h
  | none =>
    have hf : Question.forced (.nanBits k x y) = false := rfl
    rcases hop with rfl | rfl | rfl | rfl <;> (unfold floatBits at h; simp only at h; simp [binOp, Op.floatArith, h, hf, nanOf, World.drew_is_drewN])

theorem run_any_add {P : Program} (W : World) (t : TypeId) (k : FloatKind) (x y : Nat) : (binOp .add t (.float k x) (.float k y)).run P W = .ok (.float k (anyBits .add k x y W)) (W.drewN (anyDraw .add k x y)) := run_any W _ (by simp) t k x y
theorem run_any_sub {P : Program} (W : World) (t : TypeId) (k : FloatKind) (x y : Nat) : (binOp .sub t (.float k x) (.float k y)).run P W = .ok (.float k (anyBits .sub k x y W)) (W.drewN (anyDraw .sub k x y)) := run_any W _ (by simp) t k x y
theorem run_any_mul {P : Program} (W : World) (t : TypeId) (k : FloatKind) (x y : Nat) : (binOp .mul t (.float k x) (.float k y)).run P W = .ok (.float k (anyBits .mul k x y W)) (W.drewN (anyDraw .mul k x y)) := run_any W _ (by simp) t k x y
theorem run_any_quo {P : Program} (W : World) (t : TypeId) (k : FloatKind) (x y : Nat) : (binOp .quo t (.float k x) (.float k y)).run P W = .ok (.float k (anyBits .quo k x y W)) (W.drewN (anyDraw .quo k x y)) := run_any W _ (by simp) t k x y

theorem nanOf_lt (k : FloatKind) (x y : Nat) (W : World) : nanOf k x y W < 2 ^ k.format.width := by
  unfold nanOf
  generalize W.tape W.drawn (.nanBits k x y) = t
  cases k
  · show (t % 2) * 2 ^ 31 + 0x7f800000 + 1 + (t / 2) % (2 ^ 23 - 1) < 2 ^ 32
    omega
  · show (t % 2) * 2 ^ 63 + 0x7ff0000000000000 + 1 + (t / 2) % (2 ^ 52 - 1) < 2 ^ 64
    omega

theorem floatBits_lt {op : BinOp} {k : FloatKind} {x y r : Nat} (h : floatBits op k x y = some r) : r < 2 ^ k.format.width := by
  unfold floatBits at h
  split at h
  · exact k.format.add_lt h
  · exact k.format.sub_lt h
  · exact k.format.mul_lt h
  · exact k.format.div_lt h
  · cases h

theorem anyBits_lt (op : BinOp) (k : FloatKind) (x y : Nat) (W : World) : anyBits op k x y W < 2 ^ k.format.width := by
  unfold anyBits
  split
  · rename_i r h; exact floatBits_lt h
  · exact nanOf_lt k x y W

/-- a conversion between the kinds, whatever the number -/
def anyConv (s : FloatKind) (x : Nat) (d : FloatKind) (W : World) : Nat := match floatToFloatBits s x d with
  | some r => r
  | none => if (s.decode x).isNaN then Question.cut (.nanConv d x) (W.tape W.drawn (.nanConv d x)) else Question.cut (.floatToFloat x) (W.tape W.drawn (.floatToFloat x))
def anyConvDraw (s : FloatKind) (x : Nat) (d : FloatKind) : Nat := if (floatToFloatBits s x d).isSome then 0 else 1

theorem run_anyConv {P : Program} (W : World) (src dst : TypeId) (s d : FloatKind) (x : Nat) (hs : (P.underlying src).isSome = true) (hd : P.underlying dst = some (.float d)) :
    (convert src dst (.float s x)).run P W = .ok (.float d (anyConv s x d W)) (W.drewN (anyConvDraw s x d)) := by
  unfold anyConv anyConvDraw
  cases h : floatToFloatBits s x d with
  | some r => simp only [Option.isSome_some, if_true]; exact run_convert_float_float W src dst s d x r hs hd h
  | none =>
    obtain ⟨u, hs'⟩ := Option.isSome_iff_exists.1 hs
    unfold floatToFloatBits at h
    split at h
    · cases h
    · rename_i ne
      split at h
      · rename_i sg fr he
        have hf : Question.forced (.nanConv d x) = false := rfl
        have hn : (s.decode x).isNaN = true := by rw [he]; rfl
        cases u <;> simp [convert, run_underlying hs', run_underlying hd, Conv.floatToFloat, ne, he, hf, World.drew_is_drewN, Ieee.Datum.isNaN]
      · cases h
      · rename_i sg m e he
        split at h
        · rename_i ho
          have hf : Question.forced (.floatToFloat x) = false := rfl
          cases u <;> simp [convert, run_underlying hs', run_underlying hd, Conv.floatToFloat, ne, he, hf, ho, World.drew_is_drewN, Ieee.Datum.isNaN]
        · cases h

theorem conv_lt {s d : FloatKind} {x r : Nat} (hne : s ≠ d) (h : floatToFloatBits s x d = some r) : r < 2 ^ d.format.width := by
  unfold floatToFloatBits at h
  rw [if_neg hne] at h
  split at h
  · cases h
  · cases h; exact d.format.write_lt _
  · split at h
    · cases h
    · cases h; exact d.format.write_lt _

theorem anyConv_lt32 (x : Nat) (W : World) : anyConv .f64 x .f32 W < 2 ^ FloatKind.f32.format.width := by
  unfold anyConv
  split
  · rename_i r h; exact conv_lt (by decide) h
  · split
    · generalize W.tape W.drawn (.nanConv .f32 x) = t
      show (t % 2) * 2 ^ 31 + 0x7f800000 + 1 + (t / 2) % (2 ^ 23 - 1) < 2 ^ 32
      omega
    · generalize W.tape W.drawn (.floatToFloat x) = t
      show t % 2 ^ 32 < 2 ^ 32
      exact Nat.mod_lt _ (by decide)

theorem anyConv_lt64 (x : Nat) (W : World) : anyConv .f32 x .f64 W < 2 ^ FloatKind.f64.format.width := by
  unfold anyConv
  split
  · rename_i r h; exact conv_lt (by decide) h
  · split
    · generalize W.tape W.drawn (.nanConv .f64 x) = t
      show (t % 2) * 2 ^ 63 + 0x7ff0000000000000 + 1 + (t / 2) % (2 ^ 52 - 1) < 2 ^ 64
      omega
    · generalize W.tape W.drawn (.floatToFloat x) = t
      have : t % 2 ^ 32 < 2 ^ 32 := Nat.mod_lt _ (by decide)
      show t % 2 ^ 32 < 2 ^ 64
      omega

theorem alloc_drewN (w : World) (n : Nat) (o : Obj) : (w.drewN n).alloc o = (w.alloc o).drewN n := rfl
theorem setCell_drewN (w : World) (n : Nat) (a : Addr) (v : Value) : (w.drewN n).setCell a v = (w.setCell a v).drewN n := rfl

theorem unary_negF (k : FloatKind) (b : Nat) : Op.unary .neg (.float k b) = pure (.float k (Op.negFloat k b)) := rfl

theorem i64_and255 (n : Int) : bits .and .i64 n 255 = n % 256 := by
  show IntKind.i64.wrap ((BitVec.ofInt 64 n &&& BitVec.ofInt 64 255).toNat : Int) = _
  have h : (BitVec.ofInt 64 n &&& BitVec.ofInt 64 255).toNat = (BitVec.ofInt 64 n).toNat % 256 := by
    rw [BitVec.toNat_and]
    exact Nat.and_two_pow_sub_one_eq_mod _ 8
  rw [h, BitVec.toNat_ofInt, IntKind.wrap_i64]
  omega

theorem i64_and30 (n : Int) : bits .and .i64 n 1073741823 = n % 1073741824 := by
  show IntKind.i64.wrap ((BitVec.ofInt 64 n &&& BitVec.ofInt 64 1073741823).toNat : Int) = _
  have h : (BitVec.ofInt 64 n &&& BitVec.ofInt 64 1073741823).toNat = (BitVec.ofInt 64 n).toNat % 1073741824 := by
    rw [BitVec.toNat_and]
    exact Nat.and_two_pow_sub_one_eq_mod _ 30
  rw [h, BitVec.toNat_ofInt, IntKind.wrap_i64]
  omega

end Go.Proofs.Ytfkbbicacgeiiaa
