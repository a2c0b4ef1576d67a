/- The plain model: complex numbers as pairs of bits, modes, steps; their bounds. -/
import Derived.Test.YtfkbbicacgeiiaaF4
namespace Go.Proofs.Ytfkbbicacgeiiaa
open Ieee

abbrev C2 := Nat × Nat

def widC (z : C2) : C2 := (cv .f32 z.1 .f64, cv .f32 z.2 .f64)
def narC (z : C2) : C2 := (cv .f64 z.1 .f32, cv .f64 z.2 .f32)
def mulDC (x y : C2) : C2 :=
  (fb .sub .f64 (fb .mul .f64 x.1 y.1) (fb .mul .f64 x.2 y.2), fb .add .f64 (fb .mul .f64 x.1 y.2) (fb .mul .f64 x.2 y.1))
def mulSC (x y : C2) : C2 := narC (mulDC (widC x) (widC y))
def addSC (x y : C2) : C2 := (fb .add .f32 x.1 y.1, fb .add .f32 x.2 y.2)
def scSC (z : C2) (x : Nat) : C2 := (fb .mul .f32 z.1 x, fb .mul .f32 z.2 x)

/-- both parts are bounded -/
def BdC (k : FloatKind) (A : Int) (z : C2) : Prop := Bd k A z.1 ∧ Bd k A z.2

theorem BdC.mono {k : FloatKind} {A B : Int} {z : C2} (h : BdC k A z) (hab : A ≤ B) : BdC k B z := ⟨h.1.mono hab, h.2.mono hab⟩

/-- the conditions under which 'MultiplyDouble' meets no NaN -/
structure MulOk (x y : C2) : Prop where
  ac : floatBits .mul .f64 x.1 y.1 = some (fb .mul .f64 x.1 y.1)
  bd : floatBits .mul .f64 x.2 y.2 = some (fb .mul .f64 x.2 y.2)
  ad : floatBits .mul .f64 x.1 y.2 = some (fb .mul .f64 x.1 y.2)
  bc : floatBits .mul .f64 x.2 y.1 = some (fb .mul .f64 x.2 y.1)
  re : floatBits .sub .f64 (fb .mul .f64 x.1 y.1) (fb .mul .f64 x.2 y.2) = some (mulDC x y).1
  im : floatBits .add .f64 (fb .mul .f64 x.1 y.2) (fb .mul .f64 x.2 y.1) = some (mulDC x y).2

theorem mulD_ok {A B : Int} {x y : C2} (hx : BdC .f64 A x) (hy : BdC .f64 B y) (h1 : -1022 < A + B + 1) (h1' : -1022 ≤ A + B) (h2 : A + B + 1 < 1024) :
    MulOk x y ∧ BdC .f64 (A + B + 1) (mulDC x y) := by
  have m1 := mul_ok hx.1 hy.1 h1' (show A + B < 1024 by omega)
  have m2 := mul_ok hx.2 hy.2 h1' (show A + B < 1024 by omega)
  have m3 := mul_ok hx.1 hy.2 h1' (show A + B < 1024 by omega)
  have m4 := mul_ok hx.2 hy.1 h1' (show A + B < 1024 by omega)
  have s1 := sub_ok (A + B + 1) m1.2 m2.2 (by omega) (by omega) h1 h2
  have s2 := add_ok (A + B + 1) m3.2 m4.2 (by omega) (by omega) h1 h2
  exact ⟨⟨m1.1, m2.1, m3.1, m4.1, s1.1, s2.1⟩, s1.2, s2.2⟩

structure WidOk (z : C2) : Prop where
  re : floatToFloatBits .f32 z.1 .f64 = some (widC z).1
  im : floatToFloatBits .f32 z.2 .f64 = some (widC z).2

theorem wid_ok {A : Int} {z : C2} (hz : BdC .f32 A z) (h1 : -1022 ≤ A) (h2 : A < 1024) : WidOk z ∧ BdC .f64 A (widC z) := by
  have c1 := conv_ok (d := .f64) (by decide) hz.1 h1 h2
  have c2 := conv_ok (d := .f64) (by decide) hz.2 h1 h2
  exact ⟨⟨c1.1, c2.1⟩, c1.2, c2.2⟩

structure NarOk (z : C2) : Prop where
  re : floatToFloatBits .f64 z.1 .f32 = some (narC z).1
  im : floatToFloatBits .f64 z.2 .f32 = some (narC z).2

theorem nar_ok {A : Int} {z : C2} (hz : BdC .f64 A z) (h1 : -126 ≤ A) (h2 : A < 128) : NarOk z ∧ BdC .f32 A (narC z) := by
  have c1 := conv_ok (d := .f32) (by decide) hz.1 h1 h2
  have c2 := conv_ok (d := .f32) (by decide) hz.2 h1 h2
  exact ⟨⟨c1.1, c2.1⟩, c1.2, c2.2⟩

structure MulSOk (x y : C2) : Prop where
  wx : WidOk x
  wy : WidOk y
  mul : MulOk (widC x) (widC y)
  nar : NarOk (mulDC (widC x) (widC y))

theorem mulS_ok {A B : Int} {x y : C2} (hx : BdC .f32 A x) (hy : BdC .f32 B y) (hA : -100 ≤ A) (hB : -100 ≤ B) (hA' : A < 500) (hB' : B < 500) (h1 : -126 ≤ A + B + 1) (h2 : A + B + 1 < 128) :
    MulSOk x y ∧ BdC .f32 (A + B + 1) (mulSC x y) := by
  have w1 := wid_ok hx (by omega) (by omega)
  have w2 := wid_ok hy (by omega) (by omega)
  have m := mulD_ok w1.2 w2.2 (by omega) (by omega) (by omega)
  have n := nar_ok m.2 h1 h2
  exact ⟨⟨w1.1, w2.1, m.1, n.1⟩, n.2⟩

structure ScOk (z : C2) (x : Nat) : Prop where
  re : floatBits .mul .f32 z.1 x = some (scSC z x).1
  im : floatBits .mul .f32 z.2 x = some (scSC z x).2

theorem sc_ok {A B : Int} {z : C2} {x : Nat} (hz : BdC .f32 A z) (hx : Bd .f32 B x) (h1 : -126 ≤ A + B) (h2 : A + B < 128) : ScOk z x ∧ BdC .f32 (A + B) (scSC z x) := by
  have c1 := mul_ok hz.1 hx h1 h2
  have c2 := mul_ok hz.2 hx h1 h2
  exact ⟨⟨c1.1, c2.1⟩, c1.2, c2.2⟩

structure AddOk (x y : C2) : Prop where
  re : floatBits .add .f32 x.1 y.1 = some (addSC x y).1
  im : floatBits .add .f32 x.2 y.2 = some (addSC x y).2

theorem addS_ok {A B : Int} (C : Int) {x y : C2} (hx : BdC .f32 A x) (hy : BdC .f32 B y) (hA : A + 1 ≤ C) (hB : B + 1 ≤ C) (h1 : -126 < C) (h2 : C < 128) :
    AddOk x y ∧ BdC .f32 C (addSC x y) := by
  have c1 := add_ok C hx.1 hy.1 hA hB h1 h2
  have c2 := add_ok C hx.2 hy.2 hA hB h1 h2
  exact ⟨⟨c1.1, c2.1⟩, c1.2, c2.2⟩

/-- a mode: its pole and its gain -/
structure Md where
  pole : C2
  gain : C2

def stepC (m : Md) (z : C2) (x : Nat) : C2 := addSC (mulSC z m.pole) (scSC m.gain x)

structure StepOk (m : Md) (z : C2) (x : Nat) : Prop where
  mul : MulSOk z m.pole
  sc : ScOk m.gain x
  add : AddOk (mulSC z m.pole) (scSC m.gain x)

end Go.Proofs.Ytfkbbicacgeiiaa
