/- Walks: a body out of a room. -/
import Derived.Test.YtfkbbicacgeiiaaW10
namespace Go.Proofs.Ytfkbbicacgeiiaa
open Go.RowKit

attribute [local go_sem] run_store_float run_store_complex alloc_drewN setCell_drewN

def RBLoop (ms : List Md) (ws : List Nat) (w w2 : World) (bo : Nat) (c : Nat) (A S : Option Addr) (rn d : Nat) (s34 : Value) (wx : World) : Prop :=
  ∃ (i : Nat) (A2 : Option Addr) (c2 : Nat), s34 = .int .i64 i ∧ i ≤ ms.length ∧ Blk wx w.heap.size 47 #[.slice A ms.length c, .slice S rn d] ∧ Blk wx bo 25 #[.slice A2 ms.length c2] ∧
    Blk wx (w.heap.size + 1) 25 #[.slice none 0 0] ∧ wx.ownsRow w2.heap.size 39 2 (.slice A2 ms.length c2) ms.length (mdCells (partMs ms ws i)) ∧ Below w2.heap.size w2 wx

set_option maxRecDepth 10000 in
set_option maxHeartbeats 4000000 in
theorem w_roomBody (ms : List Md) (rows : List RowD) (A S : Option Addr) (c d : Nat) (s e : Nat) (w : World) (hr : RoomAt w w.heap.size A ms S rows) (hg : RoomGood ms rows)
    (hs : s < rows.length) (he : e < rows.length) (hws : ∀ x ∈ rows[s].ws, Bd .f32 0 x) (hwe : ∀ x ∈ rows[e].ws, Bd .f32 0 x) :
    Calls Try.prog 35 #[.agg #[.slice A ms.length c, .slice S rows.length d], .int .i64 s, .int .i64 e] w (BodyMade (scaledMs ms (prodL rows[s].ws rows[e].ws)) w) := by
  have k := fun (W : World) (h : RoomAt W W.heap.size A ms S rows) => w_isRoom ms rows A S c d W h hg
  have hrn := hg.places
  have hfew := hg.few
  have kp := fun (p : Nat) (W : World) (hp : p ≤ 100000) => w_isPlace (.slice A ms.length c) S rows.length d p W hp (by omega)
  have kc := fun (W : World) (h : Rd W W.heap.size 2 A ms.length (mdCells ms)) => w_clone ms A c W h (by omega)
  have hls : rows[s].ws.length = ms.length := (hg.rows_ _ (List.getElem_mem hs)).1
  have hle : rows[e].ws.length = ms.length := (hg.rows_ _ (List.getElem_mem he)).1
  have hlw := prodL_length hls hle
  have HGW := Lib.hid (scaled_good hg.good (prodL_bd hws hwe))
  have hlsc := scaledMs_length hlw
  have kk := fun (A : Option Addr) (c : Nat) (W : World) (h : Rd W W.heap.size 2 A (scaledMs ms (prodL rows[s].ws rows[e].ws)).length (mdCells (scaledMs ms (prodL rows[s].ws rows[e].ws)))) => w_checked _ A c W h HGW.out (by omega)
  have HR := Lib.hid hr
  have HG := Lib.hid hg
  have HWS := Lib.hid hws
  have HWE := Lib.hid hwe
  have ds : decide (s < rows.length) = true := decide_eq_true hs
  have de : decide (e < rows.length) = true := decide_eq_true he
  clear hr hg hws hwe
  rw [hlsc] at kk
  go_enter Try.func35, Try.ntmps35
  go_wp2_with fail
  refine (k _ ((HR.out.allocM _).allocM _)).mono ?_
  rintro e1 w1 ⟨rfl, hb⟩
  have HX := Lib.hid ((Blk.new (w.alloc (Obj.cells #[Value.slice A ms.length c, Value.slice S rows.length d] 47)) 25 #[Value.slice none 0 0]).below hb (by simp))
  have HY := Lib.hid (((Blk.new w 47 #[Value.slice A ms.length c, Value.slice S rows.length d]).alloc (Obj.cells #[Value.slice none 0 0] 25)).below hb (by simp; omega))
  have HB := Lib.hid ((((Below.refl _ _).alloc (Nat.le_refl w.heap.size) _).alloc (by simp) _).trans (hb.mono (by simp; omega)))
  rw [show (w.alloc (Obj.cells #[Value.slice A ms.length c, Value.slice S rows.length d] 47)).heap.size = w.heap.size + 1 by simp] at HX
  have y0 : w1.cell? ⟨w.heap.size, 0, none⟩ = some (.slice A ms.length c) := HY.out.cell 0
  have y1 : w1.cell? ⟨w.heap.size, 1, none⟩ = some (.slice S rows.length d) := HY.out.cell 1
  clear hb k
  go_wp2_with fail
  refine (kp s _ (by omega)).mono ?_
  rw [ds]
  rintro e1 w2 ⟨rfl, hb⟩
  have HX1 := Lib.hid (HX.out.below hb HX.out.lt)
  have HY1 := Lib.hid (HY.out.below hb HY.out.lt)
  have HB1 := Lib.hid (HB.out.trans (hb.mono HB.out.size))
  clear hb HX HY HB y0 y1
  have y0 : w2.cell? ⟨w.heap.size, 0, none⟩ = some (.slice A ms.length c) := HY1.out.cell 0
  have y1 : w2.cell? ⟨w.heap.size, 1, none⟩ = some (.slice S rows.length d) := HY1.out.cell 1
  go_wp2_with fail
  refine (kp e _ (by omega)).mono ?_
  rw [de]
  rintro e1 w3 ⟨rfl, hb⟩
  have HX2 := Lib.hid (HX1.out.below hb HX1.out.lt)
  have HY2 := Lib.hid (HY1.out.below hb HY1.out.lt)
  have HB2 := Lib.hid (HB1.out.trans (hb.mono HB1.out.size))
  clear hb HX1 HY1 HB1 y0 y1 kp
  have y0 : w3.cell? ⟨w.heap.size, 0, none⟩ = some (.slice A ms.length c) := HY2.out.cell 0
  go_wp2_with fail
  refine (kc _ ((HR.out.modes.below HB2.out).more HB2.out.size)).mono ?_
  rintro e1 w4 ⟨A4, c4, rfl, ho, hb⟩
  have HX3 := Lib.hid (HX2.out.below hb HX2.out.lt)
  have HY3 := Lib.hid (HY2.out.below hb HY2.out.lt)
  have HO := Lib.hid ho
  have HB3 := Lib.hid hb
  have hsz : w.heap.size + 1 < w3.heap.size := HX2.out.lt
  have hsz4 := hb.size
  clear hb ho kc HX2 HY2 y0
  go_wp2_with fail
  go_loopw [34] (RBLoop ms (prodL rows[s].ws rows[e].ws) w w3 w4.heap.size c A S rows.length d) (fun s34 _ => ms.length - (intOf s34).toNat)
  case atStart => exact ⟨0, A4, c4, rfl, Nat.zero_le _, HY3.out.alloc _, Blk.new _ _ _, HX3.out.alloc _, HO.out.alloc _, HB3.out.alloc hsz4 _⟩
  case round =>
    obtain ⟨i, A2, c2, rfl, hi, hbr, hbb, hbx, how, hbl⟩ := hrel
    have HBR := Lib.hid hbr
    have HBB := Lib.hid hbb
    have HBX := Lib.hid hbx
    have HOW := Lib.hid how
    have HBL := Lib.hid hbl
    have HBW := Lib.hid (HB2.out.trans (hbl.mono HB2.out.size))
    have r0 : wr.cell? ⟨w.heap.size, 0, none⟩ = some (.slice A ms.length c) := hbr.cell 0
    have r1 : wr.cell? ⟨w.heap.size, 1, none⟩ = some (.slice S rows.length d) := hbr.cell 1
    have b0 : wr.cell? ⟨w4.heap.size, 0, none⟩ = some (.slice A2 ms.length c2) := hbb.cell 0
    clear hbr hbb hbx how hbl
    by_cases hlt : i < ms.length
    · obtain ⟨g, cap, hv, hg1, hg2⟩ := own_some HOW.out (by omega)
      injection hv with hv1 hv2 hv3
      subst hv1 hv3
      have hpi := partMs_at hlw i i hi
      rw [if_neg (by omega), List.getElem?_eq_getElem hlt] at hpi
      have hpl : i < (partMs ms (prodL rows[s].ws rows[e].ws) i).length := by rw [partMs_length]; exact hlt
      obtain ⟨hc0, hc1⟩ := mdCells_at _ i hpl
      have hpe : (partMs ms (prodL rows[s].ws rows[e].ws) i)[i] = ms[i] := by
        rw [List.getElem?_eq_getElem hpl] at hpi; injection hpi
      rw [hpe] at hc0 hc1
      have g1 : wr.cell? ⟨g, i * 2 + 1, none⟩ = some (.complex .f32 ms[i].gain.1 ms[i].gain.2) := (HOW.out.cellAt _ (by omega)).trans hc1
      have gf := HOW.out.frozenAt (i * 2 + 1)
      obtain ⟨sb, so, hS, hsb, hsc⟩ := (HR.out.shapes.below HBW.out).at_ (by omega)
      have s0 : wr.cell? ⟨sb, so + s, none⟩ = some (rowV rows[s]) := hsc s _ (by simp [hs])
      have s1 : wr.cell? ⟨sb, so + e, none⟩ = some (rowV rows[e]) := hsc e _ (by simp [he])
      obtain ⟨p0, q0, hA0, hp0, hc2⟩ := ((HR.out.rows_ _ (List.getElem_mem hs)).below HBW.out).at_ (by omega)
      obtain ⟨p1, q1, hA1, hp1, hc3⟩ := ((HR.out.rows_ _ (List.getElem_mem he)).below HBW.out).at_ (by omega)
      have v0 : wr.cell? ⟨p0, q0 + i, none⟩ = some (.float .f32 (rows[s].ws[i]'(by omega))) := hc2 i _ (by simp [flV, show i < rows[s].ws.length by omega])
      have v1 : wr.cell? ⟨p1, q1 + i, none⟩ = some (.float .f32 (rows[e].ws[i]'(by omega))) := hc3 i _ (by simp [flV, show i < rows[e].ws.length by omega])
      unfold rowV at s0 s1
      rw [hls, hA0] at s0
      rw [hle, hA1] at s1
      subst hS
      have hbs := HWS.out _ (List.getElem_mem (show i < rows[s].ws.length by omega))
      have hbe := HWE.out _ (List.getElem_mem (show i < rows[e].ws.length by omega))
      have hmul := mul_small hbs hbe
      have cm := fb_rule (t := 34) hmul.1
      have hsg := scMd_good (HG.out.good _ (List.getElem_mem hlt)) hmul.2
      have ks := fun W => w_scS ms[i].gain.1 ms[i].gain.2 (fb .mul .f32 (rows[s].ws[i]'(by omega)) (rows[e].ws[i]'(by omega))) W hsg.1
      have hpw : (prodL rows[s].ws rows[e].ws)[i]'(by omega) = fb .mul .f32 (rows[s].ws[i]'(by omega)) (rows[e].ws[i]'(by omega)) := by simp [prodL]
      have hset := mdCells_set _ i ms[i] (scSC ms[i].gain (fb .mul .f32 (rows[s].ws[i]'(by omega)) (rows[e].ws[i]'(by omega)))) hpi
      have hsucc := partMs_succ hlw i hlt
      rw [hpw] at hsucc
      have HSET : Hid ((mdCells (partMs ms (prodL rows[s].ws rows[e].ws) i)).set (i * 2 + 1) (.complex .f32 (scSC ms[i].gain (fb .mul .f32 (rows[s].ws[i]'(by omega)) (rows[e].ws[i]'(by omega)))).1 (scSC ms[i].gain (fb .mul .f32 (rows[s].ws[i]'(by omega)) (rows[e].ws[i]'(by omega)))).2) = mdCells (partMs ms (prodL rows[s].ws rows[e].ws) (i + 1))) := Lib.hid (by rw [hset, hsucc]; rfl)
      have hgr : w.heap.size ≠ g := by omega
      have hgx : w.heap.size + 1 ≠ g := by omega
      have hgb : w4.heap.size ≠ g := fun h => own_blk_ne HOW.out HBB.out (by decide) (by rw [h]; rfl)
      clear hset hsucc hpw hc0 hc1 hpi hpe hpl hsc hc2 hc3 hmul hbs hbe hsg hA0 hA1 kk
      generalize rows[s].ws[i]'(by omega) = X at *
      generalize rows[e].ws[i]'(by omega) = Y at *
      generalize fb .mul .f32 X Y = XY at *
      change ∀ W, Calls Try.prog 31 #[.complex .f32 ms[i].gain.1 ms[i].gain.2, .float .f32 XY] W fun e w' => e = .returned (.complex .f32 (scSC ms[i].gain XY).1 (scSC ms[i].gain XY).2) ∧ W = w' at ks
      generalize rows[s].c = cs at *
      generalize rows[e].c = ce at *
      go_wp2_with fail
      go_quiet (fail)
      go_wp2_with fail
      go_region_with (go_at_call 31; refine (ks _).mono ?_; rintro e5 w5 ⟨rfl, rfl⟩)
      all_goals
        go_wp2_with fail
        go_roundw
        case rel => exact ⟨i + 1, _, _, by go_num, by omega, HBR.out.far hgr _, HBB.out.far hgb _, HBX.out.far hgx _, by rw [← HSET.out]; exact (HOW.out.stored _ _).1, below_drewN (HBL.out.setCell (show w3.heap.size ≤ (⟨g, i * 2 + 1, none⟩ : Addr).block from hg1) _) _⟩
        case measure => simp [intOf]; omega
    · have hin : i = ms.length := by omega
      subst hin
      rw [partMs_end hlw] at HOW
      have how := HOW
      clear HOW
      have hrd := Rd.of_own how.out
      go_wp2_with fail
      refine (kk A2 c2 _ hrd).mono ?_
      rintro e5 w5 ⟨A5, c5, rfl, ho5, hb5⟩
      rw [hlsc] at ho5 ⊢
      have hszr : w.heap.size ≤ wr.heap.size := HBW.out.size
      have HX5 := Lib.hid (HBX.out.below hb5 HBX.out.lt)
      have HO5 := Lib.hid (own_lower (base' := w.heap.size) ho5 hszr)
      have HB5 := Lib.hid (HBW.out.trans (hb5.mono hszr))
      have x0 : w5.cell? ⟨w.heap.size + 1, 0, none⟩ = some (.slice none 0 0) := HX5.out.cell 0
      have x1 := HX5.out.frozen 0
      clear ho5 hb5 kk
      go_wp2
      refine bodyPost_ret (v := .tuple #[.agg #[.slice A5 ms.length c5], .bool true]) (by simp [results, Try.results35, go_sem, x0]) rfl ?_
      refine ⟨A5, c5, by rw [hlsc], ?_, HB5.out.setCell (by simp) _⟩
      rw [hlsc]
      exact own_set HO5.out (own_blk_ne HO5.out HX5.out (by decide)) _

end Go.Proofs.Ytfkbbicacgeiiaa
