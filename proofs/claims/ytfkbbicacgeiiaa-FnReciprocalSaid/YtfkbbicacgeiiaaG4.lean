/- Draws of numbers: l1Any, l1Single, l2Turn. -/
import Derived.Test.YtfkbbicacgeiiaaG3
import Derived.LoopTactic
import Derived.Deep.DeepCutAuto
namespace Go.Proofs.Ytfkbbicacgeiiaa
open Go.RowKit

attribute [local go_sem] run_any_add run_any_sub run_any_mul run_any_quo unary_negF

def F64At (v : Value) : Prop := ∃ x, v = .float .f64 x ∧ x < 2 ^ FloatKind.f64.format.width
def NatAt (hi : Int) (v : Value) : Prop := ∃ x : Int, v = .int .i64 x ∧ 0 ≤ x ∧ x ≤ hi

theorem pow64 : 2 ^ FloatKind.f64.format.width = 18446744073709551616 := by decide

set_option maxRecDepth 10000 in
set_option maxHeartbeats 2000000 in
theorem w_any1 (g B : Nat) (w : World) (hc : Cur w g B) :
    Calls Try.prog 48 #[.pointer (some ⟨g, 0, none⟩)] w (CP w g B IsF64) := by
  have k1 := fun (W : World) (h : Cur W g B) => w_once g B 9 W h (by decide) (by decide)
  have k2 := fun (W : World) (h : Cur W g B) => w_odd g B W h
  have k3 := fun (W : World) (h : Cur W g B) => w_some g B W h
  have k4 := fun (W : World) (h : Cur W g B) => w_below g B 250 W h (by decide) (by decide)
  go_enter Try.func48, Try.ntmps48
  go_wp2_with fail
  refine (k1 _ hc).mono ?_
  rintro e w1 ⟨⟨v, rfl, b, rfl⟩, hr1⟩
  have H1 := Lib.hid hr1
  clear hr1
  cases b
  case true =>
    go_wp2_with fail
    refine (k2 _ H1.out.1).mono ?_
    rintro e w2 ⟨⟨v, rfl, b, rfl, hb⟩, hr2⟩
    have H2 := Lib.hid (H1.out.trans hr2)
    have HB := Lib.hid hb
    clear hr2 H1 k1 k2 k3 k4 hb hc
    go_wp2
    go_ret
    exact ⟨⟨_, rfl, _, rfl, HB.out⟩, H2.out⟩
  case false =>
    go_wp2_with fail
    refine (k3 _ H1.out.1).mono ?_
    rintro e w2 ⟨⟨v, rfl, x, rfl, hx⟩, hr2⟩
    have H2 := Lib.hid (H1.out.trans hr2)
    have HX := Lib.hid hx.lt
    clear hr2 H1 hx
    go_wp2_with fail
    refine (k1 _ H2.out.1).mono ?_
    rintro e w3 ⟨⟨v, rfl, b, rfl⟩, hr3⟩
    have H3 := Lib.hid (H2.out.trans hr3)
    clear hr3 H2
    go_upto_if 13 with fail
    go_cut [3] (fun s3 wx => F64At s3 ∧ CR w wx g B)
    case first =>
      cases b
      case false =>
        go_wp2_with fail
        go_meet
        exact ⟨⟨_, rfl, HX.out⟩, H3.out⟩
      case true =>
        go_wp2_with fail
        refine (k4 _ H3.out.1).mono ?_
        rintro e w4 ⟨⟨v, rfl, n, rfl, hn1, hn2⟩, hr4⟩
        have H4 := Lib.hid (H3.out.trans hr4)
        have hn : 0 ≤ n ∧ n ≤ 250 := ⟨hn1, by omega⟩
        clear hr4 H3 k1 k2 k3 k4 hc hn1 hn2
        go_wp2_with fail
        go_loopw [3, 4] (fun s3 s4 wx => F64At s3 ∧ NatAt 250 s4 ∧ CR w wx g B) (fun _ s4 _ => (intOf s4).toNat)
        case atStart => exact ⟨⟨_, rfl, HX.out⟩, ⟨n, rfl, hn.1, hn.2⟩, H4.out⟩
        case round =>
          obtain ⟨⟨y, rfl, hy⟩, ⟨j, rfl, hj0, hj1⟩, hcr⟩ := hrel
          have HC := Lib.hid hcr
          have HY := Lib.hid hy
          clear hcr hy
          by_cases hlt : 0 < j
          · go_wp2
            go_roundw
            case rel => exact ⟨⟨_, rfl, anyBits_lt _ _ _ _ _⟩, ⟨j - 1, by go_num, by omega, by omega⟩, HC.out.drewN _⟩
            case measure => simp [intOf]; omega
          · go_wp2
            go_meet
            exact ⟨⟨_, rfl, HY.out⟩, HC.out⟩
    case rest =>
      obtain ⟨⟨y, rfl, hy⟩, hcr⟩ := hcut
      have H3' := Lib.hid hcr
      have HY := Lib.hid hy
      clear hcr hy H3
      go_wp2_with fail
      refine (k1 _ H3'.out.1).mono ?_
      rintro e w4 ⟨⟨v, rfl, b2, rfl⟩, hr4⟩
      have H4 := Lib.hid (H3'.out.trans hr4)
      clear hr4 H3'
      cases b2
      case false =>
        clear k1 k2 k3 k4 hc
        go_wp2
        go_ret
        exact ⟨⟨_, rfl, _, rfl, HY.out⟩, H4.out⟩
      case true =>
        go_wp2_with fail
        refine (k4 _ H4.out.1).mono ?_
        rintro e w5 ⟨⟨v, rfl, n, rfl, hn1, hn2⟩, hr5⟩
        have H5 := Lib.hid (H4.out.trans hr5)
        have hn : 0 ≤ n ∧ n ≤ 250 := ⟨hn1, by omega⟩
        clear hr5 H4 k1 k2 k3 k4 hc hn1 hn2
        go_wp2_with fail
        go_loopw [3, 5] (fun s3 s4 wx => F64At s3 ∧ NatAt 250 s4 ∧ CR w wx g B) (fun _ s4 _ => (intOf s4).toNat)
        case atStart => exact ⟨⟨_, rfl, HY.out⟩, ⟨n, rfl, hn.1, hn.2⟩, H5.out⟩
        case round =>
          obtain ⟨⟨z, rfl, hz⟩, ⟨j, rfl, hj0, hj1⟩, hcr⟩ := hrel
          have HC := Lib.hid hcr
          have HZ := Lib.hid hz
          clear hcr hz
          by_cases hlt : 0 < j
          · go_wp2
            go_roundw
            case rel => exact ⟨⟨_, rfl, anyBits_lt _ _ _ _ _⟩, ⟨j - 1, by go_num, by omega, by omega⟩, HC.out.drewN _⟩
            case measure => simp [intOf]; omega
          · go_wp2
            go_ret
            exact ⟨⟨_, rfl, _, rfl, HZ.out⟩, HC.out⟩

theorem cvAny_rule (W : World) (x : Nat) : (convert 65 34 (.float .f64 x)).run Try.prog W = .ok (.float .f32 (anyConv .f64 x .f32 W)) (W.drewN (anyConvDraw .f64 x .f32)) :=
  run_anyConv W _ _ _ _ x (by kernel_rfl) (by kernel_rfl)

set_option maxRecDepth 10000 in
set_option maxHeartbeats 400000 in
theorem w_single1 (g B : Nat) (w : World) (hc : Cur w g B) :
    Calls Try.prog 66 #[.pointer (some ⟨g, 0, none⟩)] w (CP w g B IsC32) := by
  have k1 := fun (W : World) (h : Cur W g B) => w_any1 g B W h
  have hcv := cvAny_rule
  go_enter Try.func66, Try.ntmps66
  go_wp2_with fail
  refine (k1 _ hc).mono ?_
  rintro e w1 ⟨⟨v, rfl, x, rfl, hx⟩, hr1⟩
  have H1 := Lib.hid (hr1.drewN (anyConvDraw .f64 x .f32))
  clear hr1 hx
  go_wp2_with fail
  refine (k1 _ H1.out.1).mono ?_
  rintro e w2 ⟨⟨v, rfl, y, rfl, hy⟩, hr2⟩
  have H2 := Lib.hid ((H1.out.trans hr2).drewN (anyConvDraw .f64 y .f32))
  clear hr2 hy H1 k1 hc
  go_wp2
  go_ret
  exact ⟨⟨_, rfl, _, _, rfl, anyConv_lt32 _ _, anyConv_lt32 _ _⟩, H2.out⟩

set_option maxRecDepth 10000 in
set_option maxHeartbeats 1000000 in
theorem w_turn (g B : Nat) (w : World) (hc : Cur w g B) :
    Calls Try.prog 63 #[.pointer (some ⟨g, 0, none⟩)] w (CP w g B IsC32) := by
  have k := fun (W : World) (n : Int) (h : Cur W g B) => w_below g B n W h
  go_enter Try.func63, Try.ntmps63
  go_wp2_with fail
  refine (k _ 10 hc (by decide) (by decide)).mono ?_
  rintro e w1 ⟨⟨v, rfl, t, rfl, ht1, ht2⟩, hr1⟩
  have H1 := Lib.hid hr1
  clear hr1 hc
  go_wp2_with fail
  all_goals try (go_ret; exact ⟨⟨_, rfl, _, _, rfl, by decide, by decide⟩, H1.out⟩)
  refine (k _ 23 H1.out.1 (by decide) (by decide)).mono ?_
  rintro e w2 ⟨⟨v, rfl, x, rfl, hx1, hx2⟩, hr2⟩
  have H2 := Lib.hid ((H1.out.trans hr2).drewN (anyDraw .quo .f32 (floatOfInt .f32 (x - 11)) 1098907648))
  clear hr2 H1
  go_wp2_with fail
  refine (k _ 23 H2.out.1 (by decide) (by decide)).mono ?_
  rintro e w3 ⟨⟨v, rfl, y, rfl, hy1, hy2⟩, hr3⟩
  have H3 := Lib.hid ((H2.out.trans hr3).drewN (anyDraw .quo .f32 (floatOfInt .f32 (y - 11)) 1098907648))
  clear hr3 H2 k
  go_wp2
  go_ret
  exact ⟨⟨_, rfl, _, _, rfl, anyBits_lt _ _ _ _ _, anyBits_lt _ _ _ _ _⟩, H3.out⟩

end Go.Proofs.Ytfkbbicacgeiiaa
