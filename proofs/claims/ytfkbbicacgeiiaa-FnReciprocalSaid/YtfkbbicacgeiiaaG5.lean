/- Draws of modes. -/
import Derived.Test.YtfkbbicacgeiiaaG4
import Derived.Deep.RegionWith
namespace Go.Proofs.Ytfkbbicacgeiiaa
open Go.RowKit

attribute [local go_sem] run_any_add run_any_sub run_any_mul run_any_quo unary_negF run_store_float run_store_complex alloc_drewN setCell_drewN

def C32 (a b : Nat) : Prop := a < 2 ^ FloatKind.f32.format.width ∧ b < 2 ^ FloatKind.f32.format.width
def MdAt (w : World) (M : Nat) : Prop := ∃ a b c d, Blk w M 39 #[.complex .f32 a b, .complex .f32 c d] ∧ C32 a b ∧ C32 c d
def IsMd (v : Value) : Prop := ∃ a b c d, v = .agg #[.complex .f32 a b, .complex .f32 c d] ∧ C32 a b ∧ C32 c d

/-- the state between two statements of l2Mode: the result's cell R, the mode's cell M, the cursor -/
def ModeRel (w : World) (g B R M : Nat) (s3 : Value) (wx : World) : Prop :=
  s3 = .pointer (some ⟨M, 0, none⟩) ∧ (∃ u0 u1, Blk wx R 39 #[u0, u1]) ∧ MdAt wx M ∧ CR w wx g B

def AnyC32 (w : World) (e : Ending) (w' : World) : Prop := ∃ a b n, e = .returned (.complex .f32 a b) ∧ C32 a b ∧ w' = w.drewN n

set_option maxRecDepth 10000 in
set_option maxHeartbeats 400000 in
theorem w_sscale (a b x : Nat) (w : World) :
    Calls Try.prog 64 #[.complex .f32 a b, .float .f32 x] w (AnyC32 w) := by
  go_enter Try.func64, Try.ntmps64
  go_wp2
  go_ret
  exact ⟨_, _, _, rfl, ⟨anyBits_lt _ _ _ _ _, anyBits_lt _ _ _ _ _⟩, rfl⟩

theorem four_ints (a b c d : Int) : ∀ j, j < 4 → ∃ x : Int, (#[Value.int .i64 a, .int .i64 b, .int .i64 c, .int .i64 d] : Array Value)[j]? = some (.int .i64 x)
  | 0, _ => ⟨_, rfl⟩
  | 1, _ => ⟨_, rfl⟩
  | 2, _ => ⟨_, rfl⟩
  | 3, _ => ⟨_, rfl⟩
  | n + 4, h => absurd h (by omega)

theorem MdAt.grown {w w' : World} {M : Nat} {row : Option Nat} (h : MdAt w M) (hg : w.grownBy w' row) (hne : some M ≠ row) : MdAt w' M := by
  obtain ⟨a, b, c, d, hb, h1, h2⟩ := h
  exact ⟨a, b, c, d, hb.grown hg hne, h1, h2⟩

set_option maxRecDepth 10000 in
set_option maxHeartbeats 2000000 in
theorem w_l2Mode (g B : Nat) (w : World) (hc : Cur w g B) :
    Calls Try.prog 44 #[.pointer (some ⟨g, 0, none⟩)] w (CP w g B IsMd) := by
  have kB := fun (W : World) (n : Int) (h : Cur W g B) => w_below g B n W h
  have kT := fun (W : World) (h : Cur W g B) => w_turn g B W h
  have kO := fun (W : World) (n : Int) (h : Cur W g B) => w_once g B n W h
  have kS := fun (W : World) (h : Cur W g B) => w_single1 g B W h
  have hgl := hc.lt
  go_enter Try.func44, Try.ntmps44
  go_wp2_with fail
  have H0 := Lib.hid ((CR.refl hc).alloc (Obj.cells #[Value.complex FloatKind.f32 0 0, Value.complex FloatKind.f32 0 0] 39))
  refine (kT _ H0.out.1).mono ?_
  rintro e w1 ⟨⟨v, rfl, a, b, rfl, ha, hb⟩, hr1⟩
  have H1 := Lib.hid (H0.out.trans hr1)
  have HR : Hid (Blk w1 w.heap.size 39 #[Value.complex FloatKind.f32 0 0, Value.complex FloatKind.f32 0 0]) := Lib.hid ((Blk.new _ _ _).grown hr1.2 (by simp; omega))
  clear hr1
  go_wp2_with fail
  refine (kB _ 65 H1.out.1 (by decide) (by decide)).mono ?_
  rintro e w2 ⟨⟨v, rfl, x, rfl, hx1, hx2⟩, hr2⟩
  have H2 := Lib.hid ((H1.out.trans hr2).drewN (anyDraw .quo .f32 (floatOfInt .f32 (x - 32)) 1090519040))
  have HR2 := Lib.hid (HR.out.grown hr2.2 (by simp; omega))
  clear hr2 H0 H1 HR
  go_wp2_with fail
  refine (kB _ 65 H2.out.1 (by decide) (by decide)).mono ?_
  rintro e w3 ⟨⟨v, rfl, y, rfl, hy1, hy2⟩, hr3⟩
  have H3 := Lib.hid (H2.out.trans hr3)
  have HR3 := Lib.hid ((HR2.out.drewN _).grown hr3.2 (by simp; omega))
  have hz3 : w.heap.size + 1 ≤ w3.heap.size := HR3.out.lt
  have hg3 : g < w3.heap.size := H3.out.1.lt
  clear hr3 H2 HR2
  go_wp2_with fail
  refine (kO _ 3 ((H3.out.1.alloc _).drewN _) (by decide) (by decide)).mono ?_
  rintro e w4 ⟨⟨v, rfl, b1, rfl⟩, hr4⟩
  have H4 := Lib.hid (((H3.out.alloc _).drewN _).trans hr4)
  have HR4 := Lib.hid (((HR3.out.alloc _).drewN _).grown hr4.2 (by simp; omega))
  have HM4 : Hid (MdAt w4 w3.heap.size) := Lib.hid ⟨_, _, _, _, ((Blk.new _ _ _).drewN _).grown hr4.2 (by simp; omega), ⟨ha, hb⟩, ⟨anyBits_lt _ _ _ _ _, anyBits_lt _ _ _ _ _⟩⟩
  generalize hM : w3.heap.size = M at *
  generalize hRR : w.heap.size = R at *
  have HRM : Hid (R < M) := Lib.hid (by omega)
  have HMM := Lib.hid hM
  have HRR := Lib.hid hRR
  clear hr4 H3 HR3 hM hRR ha hb
  go_upto_if 19 with fail
  go_cut [3] (ModeRel w g B R M)
  case first =>
    cases b1
    case false =>
      go_wp2_with fail
      go_meet
      exact ⟨rfl, ⟨_, _, HR4.out⟩, HM4.out, H4.out⟩
    case true =>
      obtain ⟨a1, b1, c1, d1, hM1, hab, hcd⟩ := HM4.out
      have HM1 := Lib.hid hM1
      have m0 : w4.cell? ⟨M, 0, none⟩ = some (.complex .f32 a1 b1) := hM1.cell 0
      have m1 : w4.frozen? ⟨M, 0, none⟩ = false := hM1.frozen 0
      have m2 : M < w4.heap.size := hM1.lt
      have m3 : g < w4.heap.size := H4.out.1.lt
      have m4 : R < w4.heap.size := HR4.out.lt
      clear hM1 HM4
      go_wp2_with fail
      go_region_with (first
        | (go_at_call 65; refine (w_int g B _ 4 4 _ _ _ ((H4.out.1.alloc _).drew) (by decide) (by decide) ((Blk.new _ _ _).drew) (four_ints _ _ _ _) (by omega)).mono ?_; rintro e w5 ⟨⟨v, rfl, x5, rfl⟩, hr5⟩; have HM5 := Lib.hid (((HM1.out.alloc _).drew).grown hr5.2 (by simp; omega)); have f1 : w5.cell? ⟨M, 0, none⟩ = some (.complex .f32 a1 b1) := HM5.out.cell 0; have f2 := HM5.out.frozen 0)
        | (go_at_call 64; refine (w_sscale _ _ _ _).mono ?_; rintro e w6 ⟨a6, b6, n6, rfl, h6, rfl⟩))
      all_goals
        go_wp2_with fail
        go_meet
        have HR5 := Lib.hid (((HR4.out.alloc _).drew).grown hr5.2 (by simp; omega))
        exact ⟨rfl, ⟨_, _, (HR5.out.far (p := ⟨M, 0, none⟩) (by simp; have := HRM.out; omega) _).drewN _⟩, ⟨_, _, _, _, (HM5.out.set_ 0 _).drewN _, h6, hcd⟩, ((((H4.out.alloc _).drew).trans hr5).set (by have := HRR.out; omega) (by have := HRR.out; have := HRM.out; simp; omega) _).drewN _⟩
  case rest =>
    obtain ⟨rfl, ⟨u0, u1, hR⟩, hM, hcr⟩ := hcut
    have HR := Lib.hid hR
    have HM := Lib.hid hM
    have HC := Lib.hid hcr
    clear hR hM hcr HR4 HM4 H4 hc
    go_wp2_with fail
    refine (kO _ 25 HC.out.1 (by decide) (by decide)).mono ?_
    rintro e w5 ⟨⟨v, rfl, b2, rfl⟩, hr5⟩
    have H5 := Lib.hid (HC.out.trans hr5)
    have HR5 := Lib.hid (HR.out.grown hr5.2 (by simp; have := HRR.out; omega))
    have HM5 := Lib.hid (HM.out.grown hr5.2 (by simp; have := HRR.out; have := HRM.out; omega))
    clear hr5 HC HR HM
    go_upto_if 30 with fail
    go_cut [3] (ModeRel w g B R M)
    case first =>
      cases b2
      case false =>
        go_wp2_with fail
        go_meet
        exact ⟨rfl, ⟨_, _, HR5.out⟩, HM5.out, H5.out⟩
      case true =>
        go_wp2_with fail
        refine (kS _ H5.out.1).mono ?_
        rintro e w6 ⟨⟨v, rfl, a6, b6, rfl, h6⟩, hr6⟩
        have H6 := Lib.hid (H5.out.trans hr6)
        have HR6 := Lib.hid (HR5.out.grown hr6.2 (by simp; have := HRR.out; omega))
        obtain ⟨a1, b1, c1, d1, hM1, hab, hcd⟩ := HM5.out.grown hr6.2 (by simp; have := HRR.out; have := HRM.out; omega)
        have HM1 := Lib.hid hM1
        have m0 : w6.cell? ⟨M, 0, none⟩ = some (.complex .f32 a1 b1) := hM1.cell 0
        have m1 : w6.frozen? ⟨M, 0, none⟩ = false := hM1.frozen 0
        clear hM1 hr6 H5 HR5 HM5
        go_wp2_with fail
        go_meet
        exact ⟨rfl, ⟨_, _, HR6.out.far (p := ⟨M, 0, none⟩) (by simp; have := HRM.out; omega) _⟩, ⟨_, _, _, _, HM1.out.set_ 0 _, h6, hcd⟩, H6.out.set (by have := HRR.out; omega) (by have := HRR.out; have := HRM.out; simp; omega) _⟩
    case rest =>
      obtain ⟨rfl, ⟨u2, u3, hR⟩, hM, hcr⟩ := hcut
      have HR := Lib.hid hR
      have HM := Lib.hid hM
      have HC := Lib.hid hcr
      clear hR hM hcr HR5 HM5 H5
      go_wp2_with fail
      refine (kO _ 25 HC.out.1 (by decide) (by decide)).mono ?_
      rintro e w7 ⟨⟨v, rfl, b3, rfl⟩, hr7⟩
      have H7 := Lib.hid (HC.out.trans hr7)
      have HR7 := Lib.hid (HR.out.grown hr7.2 (by simp; have := HRR.out; omega))
      have HM7 := Lib.hid (HM.out.grown hr7.2 (by simp; have := HRR.out; have := HRM.out; omega))
      clear hr7 HC HR HM
      go_upto_if 35 with fail
      go_cut [3] (ModeRel w g B R M)
      case first =>
        cases b3
        case false =>
          go_wp2_with fail
          go_meet
          exact ⟨rfl, ⟨_, _, HR7.out⟩, HM7.out, H7.out⟩
        case true =>
          go_wp2_with fail
          refine (kS _ H7.out.1).mono ?_
          rintro e w8 ⟨⟨v, rfl, a6, b6, rfl, h6⟩, hr8⟩
          have H8 := Lib.hid (H7.out.trans hr8)
          have HR8 := Lib.hid (HR7.out.grown hr8.2 (by simp; have := HRR.out; omega))
          obtain ⟨a1, b1, c1, d1, hM1, hab, hcd⟩ := HM7.out.grown hr8.2 (by simp; have := HRR.out; have := HRM.out; omega)
          have HM1 := Lib.hid hM1
          have m0 : w8.cell? ⟨M, 1, none⟩ = some (.complex .f32 c1 d1) := hM1.cell 1
          have m1 : w8.frozen? ⟨M, 1, none⟩ = false := hM1.frozen 1
          clear hM1 hr8 H7 HR7 HM7
          go_wp2_with fail
          go_meet
          exact ⟨rfl, ⟨_, _, HR8.out.far (p := ⟨M, 1, none⟩) (by simp; have := HRM.out; omega) _⟩, ⟨_, _, _, _, HM1.out.set_ 1 _, hab, h6⟩, H8.out.set (by have := HRR.out; omega) (by have := HRR.out; have := HRM.out; simp; omega) _⟩
      case rest =>
        obtain ⟨rfl, ⟨u4, u5, hR⟩, hM, hcr⟩ := hcut
        obtain ⟨a1, b1, c1, d1, hM1, hab, hcd⟩ := hM
        have HC := Lib.hid hcr
        have m0 : wc.cell? ⟨M, 0, none⟩ = some (.complex .f32 a1 b1) := hM1.cell 0
        have m1 : wc.cell? ⟨M, 1, none⟩ = some (.complex .f32 c1 d1) := hM1.cell 1
        have r0 : wc.cell? ⟨R, 0, none⟩ = some u4 := hR.cell 0
        have r1 : wc.cell? ⟨R, 1, none⟩ = some u5 := hR.cell 1
        have r2 : wc.frozen? ⟨R, 0, none⟩ = false := hR.frozen 0
        have r3 : wc.frozen? ⟨R, 1, none⟩ = false := hR.frozen 1
        clear hM1 hR hcr HR7 HM7 H7 kB kT kO kS
        go_wp2
        refine bodyPost_ret (v := .agg #[.complex .f32 a1 b1, .complex .f32 c1 d1]) (by simp [results, Try.results44, go_sem, r0, r1]) rfl ?_
        exact ⟨⟨_, rfl, _, _, _, _, rfl, hab, hcd⟩, (HC.out.set (by have := HRR.out; omega) (by have := HRR.out; simp; omega) _).set (by have := HRR.out; omega) (by have := HRR.out; simp; omega) _⟩

end Go.Proofs.Ytfkbbicacgeiiaa
