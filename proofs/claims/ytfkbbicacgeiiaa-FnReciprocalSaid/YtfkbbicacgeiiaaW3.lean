/- Walks: what the reference tells of a mode. -/
import Derived.Test.YtfkbbicacgeiiaaW1
import Derived.Test.YtfkbbicacgeiiaaA1
import Derived.Test.YtfkbbicacgeiiaaF7
import Derived.Lib.Hide
namespace Go.Proofs.Ytfkbbicacgeiiaa
open Go.RowKit

theorem nan_read (x y : Nat) (W : World) : ∃ s f, FloatKind.f64.format.read (nanOf .f64 x y W) = .nan s f := by
  unfold nanOf
  generalize W.tape W.drawn (.nanBits .f64 x y) = t
  show ∃ s f, FloatKind.f64.format.read ((t % 2) * 2 ^ 63 + 0x7ff0000000000000 + 1 + (t / 2) % (2 ^ 52 - 1)) = .nan s f
  unfold Ieee.Format.read
  have e1 : FloatKind.f64.format.signWeight = 2 ^ 63 := by decide
  have e2 : FloatKind.f64.format.binade = 2 ^ 52 := by decide
  have e3 : FloatKind.f64.format.infRung = 0x7ff0000000000000 := by decide
  simp only [e1, e2, e3]
  have h : ((t % 2) * 2 ^ 63 + 0x7ff0000000000000 + 1 + (t / 2) % (2 ^ 52 - 1)) % 2 ^ 63 = 0x7ff0000000000000 + 1 + (t / 2) % (2 ^ 52 - 1) := by omega
  rw [h, if_neg (by omega), if_neg (by omega), if_neg (by omega)]
  exact ⟨_, _, rfl⟩

theorem nan_order (x y z : Nat) (W : World) : FloatKind.f64.format.order (nanOf .f64 x y W) z = none := by
  obtain ⟨s, f, h⟩ := nan_read x y W
  unfold Ieee.Format.order
  rw [h]
  cases FloatKind.f64.format.read z <;> rfl

set_option maxHeartbeats 400000 in
theorem w_fin_yes (x : Nat) (A : Int) (w : World) (h : Bd .f64 A x) :
    Calls Try.prog 80 #[.float .f64 x] w fun e w' => e = .returned (.bool true) ∧ w = w' := by
  have r := fb_rule (t := 65) (sub_self' h)
  have o : FloatKind.f64.format.order 0 0 = some .eq := by decide
  clear h
  go_enter Try.func80, Try.ntmps80
  go_wp2
  go_ret
  exact ⟨rfl, rfl⟩

set_option maxHeartbeats 400000 in
theorem w_fin_no (x : Nat) (w : World) (h : ∀ s m e, FloatKind.f64.format.read x ≠ .number s m e) :
    Calls Try.prog 80 #[.float .f64 x] w fun e w' => e = .returned (.bool false) ∧ ∃ n, w' = w.drewN n := by
  have hn := sub_none h
  have ha : ∀ W, anyBits .sub .f64 x x W = nanOf .f64 x x W := fun W => by unfold anyBits; rw [hn]
  have r : ∀ W, (binOp .sub 65 (.float .f64 x) (.float .f64 x)).run Try.prog W = .ok (.float .f64 (nanOf .f64 x x W)) (W.drewN (anyDraw .sub .f64 x x)) := fun W => by rw [run_any_sub, ha]
  have o := fun W => nan_order x x 0 W
  clear h hn ha
  go_enter Try.func80, Try.ntmps80
  go_wp2
  go_ret
  exact ⟨rfl, _, rfl⟩

/-- is it a finite number? -/
def numB (k : FloatKind) (x : Nat) : Bool := match k.format.read x with | .number .. => true | _ => false

theorem numB_yes {k : FloatKind} {x : Nat} (hx : x < 2 ^ k.format.width) (h : numB k x = true) : Bd k (hi k) x := by
  unfold numB at h
  cases hr : k.format.read x with
  | number s m e => exact bd_of_read hx hr
  | infinity s => rw [hr] at h; cases h
  | nan s f => rw [hr] at h; cases h

theorem numB_no {k : FloatKind} {x : Nat} (h : numB k x = false) : ∀ s m e, k.format.read x ≠ .number s m e := by
  intro s m e hr
  unfold numB at h
  rw [hr] at h
  cases h

def BoolDrew (b : Bool) (w : World) (e : Ending) (w' : World) : Prop := e = .returned (.bool b) ∧ ∃ n, w' = w.drewN n

theorem w_fin (x : Nat) (w : World) (hx : x < 2 ^ FloatKind.f64.format.width) :
    Calls Try.prog 80 #[.float .f64 x] w (BoolDrew (numB .f64 x) w) := by
  cases h : numB .f64 x with
  | true => exact (w_fin_yes x _ w (numB_yes hx h)).mono fun _ _ ⟨a, b⟩ => ⟨a, 0, b.symm⟩
  | false => exact (w_fin_no x w (numB_no h)).mono fun _ _ ⟨a, b⟩ => ⟨a, b⟩

set_option maxHeartbeats 400000 in
theorem w_finD (x y : Nat) (w : World) (hx : x < 2 ^ FloatKind.f64.format.width) (hy : y < 2 ^ FloatKind.f64.format.width) :
    Calls Try.prog 77 #[.complex .f64 x y] w (BoolDrew (numB .f64 x && numB .f64 y) w) := by
  have k1 := fun W => w_fin x W hx
  have k2 := fun W => w_fin y W hy
  cases h1 : numB .f64 x with
  | false =>
    rw [h1] at k1
    clear h1
    go_enter Try.func77, Try.ntmps77
    go_wp2_with fail
    refine (k1 _).mono ?_
    rintro e w1 ⟨rfl, n, rfl⟩
    go_wp2_with fail
    go_ret
    exact ⟨rfl, _, rfl⟩
  | true =>
    rw [h1] at k1
    clear h1
    go_enter Try.func77, Try.ntmps77
    go_wp2_with fail
    refine (k1 _).mono ?_
    rintro e w1 ⟨rfl, n, rfl⟩
    go_wp2_with fail
    refine (k2 _).mono ?_
    rintro e w2 ⟨rfl, n2, rfl⟩
    go_wp2_with fail
    go_ret
    exact ⟨by simp, _, rfl⟩

/-- complex64 to complex128, whatever the number -/
theorem run_anyCC {P : Program} (W : World) (src dst : TypeId) (x y : Nat) (hs : (P.underlying src).isSome = true) (hd : P.underlying dst = some (.complex .f64)) :
    (convert src dst (.complex .f32 x y)).run P W = .ok (.complex .f64 (anyConv .f32 x .f64 W) (anyConv .f32 y .f64 (W.drewN (anyConvDraw .f32 x .f64)))) (W.drewN (anyConvDraw .f32 x .f64 + anyConvDraw .f32 y .f64)) := by
  obtain ⟨u, hs'⟩ := Option.isSome_iff_exists.1 hs
  have key : ∀ (V : World) (z : Nat), (Conv.floatToFloat .f32 z .f64).run P V = .ok (.float .f64 (anyConv .f32 z .f64 V)) (V.drewN (anyConvDraw .f32 z .f64)) := by
    intro V z
    unfold anyConv anyConvDraw
    cases h : floatToFloatBits .f32 z .f64 with
    | some r => simp only [Option.isSome_some, if_true]; exact run_floatToFloat V h
    | none =>
      unfold floatToFloatBits at h
      rw [if_neg (by decide)] at h
      split at h
      · rename_i sg fr he
        have hf : Question.forced (.nanConv .f64 z) = false := rfl
        simp [Conv.floatToFloat, he, hf, World.drew_is_drewN, Ieee.Datum.isNaN]
      · cases h
      · rename_i sg m e he
        split at h
        · rename_i ho
          have hf : Question.forced (.floatToFloat z) = false := rfl
          simp [Conv.floatToFloat, he, hf, ho, World.drew_is_drewN, Ieee.Datum.isNaN]
        · cases h
  cases u <;> simp [convert, run_underlying hs', run_underlying hd, Conv.complexToComplex, key]

theorem cut_nanConv (x t : Nat) : Question.cut (.nanConv .f64 x) t = (t % 2) * 2 ^ 63 + 0x7ff0000000000000 + 1 + (t / 2) % (2 ^ 52 - 1) := rfl

theorem nan_word_read (t : Nat) : ∃ s f, FloatKind.f64.format.read ((t % 2) * 2 ^ 63 + 0x7ff0000000000000 + 1 + (t / 2) % (2 ^ 52 - 1)) = .nan s f := by
  unfold Ieee.Format.read
  have e1 : FloatKind.f64.format.signWeight = 2 ^ 63 := by decide
  have e2 : FloatKind.f64.format.binade = 2 ^ 52 := by decide
  have e3 : FloatKind.f64.format.infRung = 0x7ff0000000000000 := by decide
  simp only [e1, e2, e3]
  have h : ((t % 2) * 2 ^ 63 + 0x7ff0000000000000 + 1 + (t / 2) % (2 ^ 52 - 1)) % 2 ^ 63 = 0x7ff0000000000000 + 1 + (t / 2) % (2 ^ 52 - 1) := by omega
  rw [h, if_neg (by omega), if_neg (by omega), if_neg (by omega)]
  exact ⟨_, _, rfl⟩

theorem numB_of_nan {k : FloatKind} {x : Nat} (h : ∃ s f, k.format.read x = .nan s f) : numB k x = false := by
  obtain ⟨s, f, h⟩ := h
  unfold numB
  rw [h]

theorem anyConv_some {x r : Nat} {W : World} (h : floatToFloatBits .f32 x .f64 = some r) : anyConv .f32 x .f64 W = r := by unfold anyConv; rw [h]

theorem conv_inf {x : Nat} {s : Bool} (hr : FloatKind.f32.format.read x = .infinity s) : floatToFloatBits .f32 x .f64 = some (FloatKind.f64.format.word s FloatKind.f64.format.infRung) := by
  unfold floatToFloatBits
  rw [if_neg (by decide)]
  have h : FloatKind.f32.decode x = .infinity s := hr
  rw [h]
  rfl

theorem conv_nan {x : Nat} {s : Bool} {f : Nat} (hr : FloatKind.f32.format.read x = .nan s f) (W : World) : anyConv .f32 x .f64 W = Question.cut (.nanConv .f64 x) (W.tape W.drawn (.nanConv .f64 x)) := by
  have h : FloatKind.f32.decode x = .nan s f := hr
  have h2 : floatToFloatBits .f32 x .f64 = none := by
    unfold floatToFloatBits
    rw [if_neg (by decide), h]
  unfold anyConv
  rw [h2, h]
  rfl

theorem numB_inf (s : Bool) : numB .f64 (FloatKind.f64.format.word s FloatKind.f64.format.infRung) = false := by
  have : FloatKind.f64.format.read (FloatKind.f64.format.word s FloatKind.f64.format.infRung) = .infinity s := by cases s <;> decide
  unfold numB
  rw [this]

theorem numB_conv (x : Nat) (hx : x < 2 ^ FloatKind.f32.format.width) (W : World) : numB .f64 (anyConv .f32 x .f64 W) = numB .f32 x := by
  cases h : numB .f32 x with
  | true =>
    have hb := numB_yes hx h
    have hc := conv_ok (d := .f64) (by decide) hb (by decide) (by decide)
    rw [anyConv_some hc.1]
    obtain ⟨_, s, m, e, hr, _⟩ := hc.2
    unfold numB
    rw [hr]
  | false =>
    have hno := numB_no h
    cases hr : FloatKind.f32.format.read x with
    | number s m e => exact absurd hr (hno s m e)
    | infinity s => rw [anyConv_some (conv_inf hr)]; exact numB_inf s
    | nan s f =>
      rw [conv_nan hr, cut_nanConv]
      exact numB_of_nan (nan_word_read _)

theorem ccAny_rule (x y : Nat) (W : World) : (convert 37 41 (.complex .f32 x y)).run Try.prog W = .ok (.complex .f64 (anyConv .f32 x .f64 W) (anyConv .f32 y .f64 (W.drewN (anyConvDraw .f32 x .f64)))) (W.drewN (anyConvDraw .f32 x .f64 + anyConvDraw .f32 y .f64)) :=
  run_anyCC W _ _ _ _ (by kernel_rfl) (by kernel_rfl)

set_option maxHeartbeats 400000 in
theorem w_finS (x y : Nat) (w : World) (hx : x < 2 ^ FloatKind.f32.format.width) (hy : y < 2 ^ FloatKind.f32.format.width) :
    Calls Try.prog 67 #[.complex .f32 x y] w (BoolDrew (numB .f32 x && numB .f32 y) w) := by
  have k := fun W W' W'' => w_finD (anyConv .f32 x .f64 W) (anyConv .f32 y .f64 W') W'' (anyConv_lt64 _ _) (anyConv_lt64 _ _)
  have r := ccAny_rule x y
  have HX := Lib.hid hx
  have HY := Lib.hid hy
  clear hx hy
  go_enter Try.func67, Try.ntmps67
  go_wp2_with fail
  refine (k _ _ _).mono ?_
  rintro e w1 ⟨rfl, n, rfl⟩
  rw [numB_conv x HX.out, numB_conv y HY.out]
  go_wp2_with fail
  go_ret
  exact ⟨by simp, _, rfl⟩

set_option maxHeartbeats 400000 in
theorem w_sq (a b : Nat) (w : World) (h : SqOk (a, b)) :
    Calls Try.prog 68 #[.complex .f64 a b] w fun e w' => e = .returned (.float .f64 (sqC (a, b))) ∧ w = w' := by
  have c1 := fb_rule (t := 65) h.aa
  have c2 := fb_rule (t := 65) h.bb
  have c3 := fb_rule (t := 65) h.sum
  generalize sqC (a, b) = r1 at *
  clear h
  go_enter Try.func68, Try.ntmps68
  go_wp2
  go_ret
  exact ⟨rfl, rfl⟩

attribute [local go_sem] unary_negF

set_option maxHeartbeats 400000 in
theorem w_sabs (x : Nat) (A : Int) (w : World) (h : Bd .f64 A x) :
    Calls Try.prog 78 #[.float .f64 x] w fun e w' => e = .returned (.float .f64 (absW .f64 x)) ∧ w = w' := by
  rcases abs_cases h with ⟨h1, h2⟩ | ⟨h1, h2, h3⟩ | ⟨h1, h2, h3⟩
  · unfold ltB at h1
    have H2 := Lib.hid h2
    clear h h2
    go_enter Try.func78, Try.ntmps78
    go_wp2
    go_ret
    exact ⟨by rw [← H2.out]; rfl, rfl⟩
  · unfold ltB at h1
    unfold eqB at h2
    have H3 := Lib.hid h3
    clear h h3
    go_enter Try.func78, Try.ntmps78
    go_wp2
    go_ret
    exact ⟨by rw [H3.out]; rfl, rfl⟩
  · unfold ltB at h1
    unfold eqB at h2
    have H3 := Lib.hid h3
    clear h h3
    go_enter Try.func78, Try.ntmps78
    go_wp2
    go_ret
    exact ⟨by rw [H3.out]; rfl, rfl⟩

set_option maxHeartbeats 400000 in
theorem w_gain (a b : Nat) (A : Int) (w : World) (h : Bd .f64 A a) (h' : Bd .f64 A b) :
    Calls Try.prog 69 #[.complex .f64 a b] w fun e w' => e = .returned (.bool (leB .f64 (absW .f64 a) 4652218415073722368 && leB .f64 (absW .f64 b) 4652218415073722368)) ∧ w = w' := by
  have k1 := fun W => w_sabs a A W h
  have k2 := fun W => w_sabs b A W h'
  clear h h'
  cases h1 : leB .f64 (absW .f64 a) 4652218415073722368 with
  | false =>
    unfold leB at h1
    go_enter Try.func69, Try.ntmps69
    go_wp2_with fail
    refine (k1 _).mono ?_
    rintro e w1 ⟨rfl, rfl⟩
    go_wp2_with fail
    go_ret
    exact ⟨rfl, rfl⟩
  | true =>
    unfold leB at h1
    cases h2 : leB .f64 (absW .f64 b) 4652218415073722368 <;>
    · unfold leB at h2
      go_enter Try.func69, Try.ntmps69
      go_wp2_with fail
      refine (k1 _).mono ?_
      rintro e w1 ⟨rfl, rfl⟩
      go_wp2_with fail
      refine (k2 _).mono ?_
      rintro e w2 ⟨rfl, rfl⟩
      go_wp2_with fail
      go_ret
      exact ⟨rfl, rfl⟩

end Go.Proofs.Ytfkbbicacgeiiaa
