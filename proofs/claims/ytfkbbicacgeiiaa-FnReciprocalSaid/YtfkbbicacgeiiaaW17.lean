/- Walks: what an ear hears at a place where all weights are 1. -/
import Derived.Test.YtfkbbicacgeiiaaW16
namespace Go.Proofs.Ytfkbbicacgeiiaa
open Go.RowKit

attribute [local go_sem] run_store_float run_store_complex alloc_drewN setCell_drewN

def LALoop1 (ms : List Md) (ws : List Nat) (w w3 : World) (c : Nat) (A S : Option Addr) (rn d : Nat) (A2 : Option Addr) (c2 : Nat) (s44 : Value) (wx : World) : Prop :=
  ∃ i : Nat, s44 = .int .i64 i ∧ i ≤ ms.length ∧ Blk wx w.heap.size 47 #[.slice A ms.length c, .slice S rn d] ∧
    wx.ownsRow w3.heap.size 39 2 (.slice A2 ms.length c2) ms.length (mdCells (partMs ms ws i)) ∧ Below w3.heap.size w3 wx

def LALoop2 (sm : List Md) (xs : List Nat) (m : Nat) (w w5 : World) (v0 v1 : Value) (s13 s72 : Value) (wx : World) : Prop :=
  ∃ i : Nat, s72 = .int .i64 i ∧ i ≤ m ∧ wx.ownsRow w5.heap.size 34 1 s13 i ((ringL sm xs i).map flV) ∧ Blk wx w5.heap.size 37 ((statesAt sm xs i).map cV).toArray ∧ Blk wx w.heap.size 47 #[v0, v1] ∧ Below w5.heap.size w5 wx

theorem outOf_take {zs : List C2} {k : Nat} (hk : k < zs.length) : fb .add .f32 (outOf (zs.take k)) (zs[k]).1 = outOf (zs.take (k + 1)) := by
  rw [take_snoc' _ k hk, outOf_snoc]

theorem statesAt_succ (ms : List Md) (xs : List Nat) (i : Nat) : stepAll ms (statesAt ms xs i) (xs.getD i 0) = statesAt ms xs (i + 1) := rfl

set_option maxRecDepth 10000 in
set_option maxHeartbeats 8000000 in
theorem w_listen (ms : List Md) (rows : List RowD) (xs : List Nat) (A S A' E : Option Addr) (c d c' ec : Nat) (s p m : Nat) (w : World) (hr : RoomAt w w.heap.size A ms S rows) (hg : RoomGood ms rows)
    (hx : Rd w w.heap.size 1 A' xs.length (xs.map flV)) (hE : Rd w w.heap.size 1 E m (List.replicate m (.int .i64 p))) (hxl : xs.length ≤ 1000) (hm : m ≤ 25)
    (hs : s < rows.length) (hp : p < rows.length) (hws : ∀ x ∈ rows[s].ws, Bd .f32 0 x) (hone : rows[p].ws = List.replicate ms.length (one .f32))
    (hok : RingOk (scaledMs ms rows[s].ws) xs m) (hmul : ∀ i, i < m → ∀ z ∈ statesAt (scaledMs ms rows[s].ws) xs (i + 1), floatBits .mul .f32 z.1 (one .f32) = some z.1) :
    Calls Try.prog 17 #[.agg #[.slice A ms.length c, .slice S rows.length d], .int .i64 s, .slice E m ec, .slice A' xs.length c'] w (RingPost (scaledMs ms rows[s].ws) xs m w) := by
  have k := fun (W : World) (h : RoomAt W W.heap.size A ms S rows) => w_isRoom ms rows A S c d W h hg
  have hrn := hg.places
  have hfew := hg.few
  have kp := fun (W : World) => w_isPlace (.slice A ms.length c) S rows.length d s W (by omega) (by omega)
  have ke := fun (W : World) (h : Blk W w.heap.size 47 #[.slice A ms.length c, .slice S rows.length d]) (h' : Rd W W.heap.size 1 E m (List.replicate m (.int .i64 p))) => w_containsI (.slice A ms.length c) S rows.length d w.heap.size p m E ec W h h' hp (by omega) (by omega)
  have kc := fun (W : World) (h : Rd W W.heap.size 2 A ms.length (mdCells ms)) => w_clone ms A c W h (by omega)
  have kE := fun (i : Nat) (W : World) (h : Rd W W.heap.size 1 A' xs.length (xs.map flV)) => w_element xs A' c' i W h
  have hlw : rows[s].ws.length = ms.length := (hg.rows_ _ (List.getElem_mem hs)).1
  have hlp : rows[p].ws.length = ms.length := (hg.rows_ _ (List.getElem_mem hp)).1
  have hlsc := scaledMs_length hlw
  have HR := Lib.hid hr
  have HG := Lib.hid hg
  have HX := Lib.hid hx
  have HE := Lib.hid hE
  have HWS := Lib.hid hws
  have HONE := Lib.hid hone
  have HOK := Lib.hid hok
  have HMUL := Lib.hid hmul
  have ds : decide (s < rows.length) = true := decide_eq_true hs
  clear hr hg hx hE hws hone hok hmul
  rw [ds] at kp
  have hmf : ∀ (fn : Fn) (first cap : Array Value) (w : World), (Instr.makeFunc fn first cap).run Try.prog w = .ok (.func fn first cap) w := fun _ _ _ _ => rfl
  obtain ⟨i0, hi0, hz0, hz1, hz2⟩ := info_parts info_c64
  obtain ⟨i1, hi1, hf1, hf2, hf3⟩ := info_parts info_f32
  have hmk : ∀ W : World, (Instr.makeSlice 33 (.int .i64 (ms.length : Int)) (.int .i64 (ms.length : Int))).run Try.prog W = .ok (.slice (some ⟨W.heap.size, 0, none⟩) ms.length ms.length) (W.alloc (.cells ((List.replicate ms.length ((0, 0) : C2)).map cV).toArray 37)) := fun W => by
    have h := run_make_rowN (P := Try.prog) 33 37 i0 (.complex .f32 0 0) Try.underlying33 hi0 hz0 .i64 .i64 ms.length ms.length (Nat.le_refl _) (by rw [hz2]; omega) (by omega) W
    rw [hz1, made_c64] at h
    exact h
  go_enter Try.func17, Try.ntmps17
  go_wp2_with fail
  refine (k _ (HR.out.allocM _)).mono ?_
  rintro e1 w1 ⟨rfl, hb⟩
  have HY := Lib.hid ((Blk.new w 47 #[Value.slice A ms.length c, Value.slice S rows.length d]).below hb (by simp))
  have HB := Lib.hid (((Below.refl _ _).alloc (Nat.le_refl w.heap.size) _).trans (hb.mono (by simp)))
  have y0 : w1.cell? ⟨w.heap.size, 0, none⟩ = some (.slice A ms.length c) := HY.out.cell 0
  have y1 : w1.cell? ⟨w.heap.size, 1, none⟩ = some (.slice S rows.length d) := HY.out.cell 1
  clear hb k
  go_wp2_with fail
  refine (kp _).mono ?_
  rintro e1 w2 ⟨rfl, hb⟩
  have HY1 := Lib.hid (HY.out.below hb HY.out.lt)
  have HB1 := Lib.hid (HB.out.trans (hb.mono HB.out.size))
  clear hb HY HB y0 y1 kp
  go_wp2_with fail
  refine (ke _ HY1.out ((HE.out.below HB1.out).more HB1.out.size)).mono ?_
  rintro e1 w3 ⟨rfl, hb⟩
  have HY2 := Lib.hid (HY1.out.below hb HY1.out.lt)
  have HB2 := Lib.hid (HB1.out.trans (hb.mono HB1.out.size))
  have y0 : w3.cell? ⟨w.heap.size, 0, none⟩ = some (.slice A ms.length c) := HY2.out.cell 0
  clear hb HY1 HB1 ke
  go_wp2_with fail
  refine (kc _ ((HR.out.modes.below HB2.out).more HB2.out.size)).mono ?_
  rintro e1 w4 ⟨A2, c2, rfl, ho, hb⟩
  have HY3 := Lib.hid (HY2.out.below hb HY2.out.lt)
  have HO := Lib.hid ho
  have HB3 := Lib.hid hb
  have hsz : w.heap.size < w3.heap.size := HY2.out.lt
  clear hb ho kc HY2 y0
  go_wp2_with fail
  go_loopw [44] (LALoop1 ms rows[s].ws w w3 c A S rows.length d A2 c2) (fun s44 _ => ms.length - (intOf s44).toNat)
  case atStart => exact ⟨0, rfl, Nat.zero_le _, HY3.out, HO.out, HB3.out⟩
  case round =>
    obtain ⟨i, rfl, hi, hbr, how, hbl⟩ := hrel
    have HBR := Lib.hid hbr
    have HOW := Lib.hid how
    have HBL := Lib.hid hbl
    have HBW := Lib.hid (HB2.out.trans (hbl.mono HB2.out.size))
    have r0 : wr.cell? ⟨w.heap.size, 0, none⟩ = some (.slice A ms.length c) := hbr.cell 0
    have r1 : wr.cell? ⟨w.heap.size, 1, none⟩ = some (.slice S rows.length d) := hbr.cell 1
    clear hbr how hbl
    by_cases hlt : i < ms.length
    · obtain ⟨g, cap, hv, hg1, hg2⟩ := own_some HOW.out (by omega)
      injection hv with hv1 hv2 hv3
      subst hv1 hv3
      have hpi := partMs_at hlw i i hi
      rw [if_neg (by omega), List.getElem?_eq_getElem hlt] at hpi
      have hpl : i < (partMs ms rows[s].ws i).length := by rw [partMs_length]; exact hlt
      obtain ⟨hc0, hc1⟩ := mdCells_at _ i hpl
      have hpe : (partMs ms rows[s].ws i)[i] = ms[i] := by
        rw [List.getElem?_eq_getElem hpl] at hpi; injection hpi
      rw [hpe] at hc0 hc1
      have g1 : wr.cell? ⟨g, i * 2 + 1, none⟩ = some (.complex .f32 ms[i].gain.1 ms[i].gain.2) := (HOW.out.cellAt _ (by omega)).trans hc1
      have gf := HOW.out.frozenAt (i * 2 + 1)
      obtain ⟨sb, so, hS, hsb, hsc⟩ := (HR.out.shapes.below HBW.out).at_ (by omega)
      have s0 : wr.cell? ⟨sb, so + s, none⟩ = some (rowV rows[s]) := hsc s _ (by simp [hs])
      obtain ⟨p0, q0, hA0, hp0, hc2⟩ := ((HR.out.rows_ _ (List.getElem_mem hs)).below HBW.out).at_ (by omega)
      have v0 : wr.cell? ⟨p0, q0 + i, none⟩ = some (.float .f32 (rows[s].ws[i]'(by omega))) := hc2 i _ (by simp [flV, show i < rows[s].ws.length by omega])
      unfold rowV at s0
      rw [hlw, hA0] at s0
      subst hS
      have hbs := HWS.out _ (List.getElem_mem (show i < rows[s].ws.length by omega))
      have hsg := scMd_good (HG.out.good _ (List.getElem_mem hlt)) hbs
      have ks := fun W => w_scS ms[i].gain.1 ms[i].gain.2 (rows[s].ws[i]'(by omega)) W hsg.1
      have hset := mdCells_set _ i ms[i] (scSC ms[i].gain (rows[s].ws[i]'(by omega))) hpi
      have hsucc := partMs_succ hlw i hlt
      have HSET : Hid ((mdCells (partMs ms rows[s].ws i)).set (i * 2 + 1) (.complex .f32 (scSC ms[i].gain (rows[s].ws[i]'(by omega))).1 (scSC ms[i].gain (rows[s].ws[i]'(by omega))).2) = mdCells (partMs ms rows[s].ws (i + 1))) := Lib.hid (by rw [hset, hsucc]; rfl)
      have hgr : w.heap.size ≠ g := by omega
      clear hset hsucc hc0 hc1 hpi hpe hpl hsc hc2 hbs hsg hA0 kE hmk
      generalize rows[s].ws[i]'(by omega) = X at *
      change ∀ W, Calls Try.prog 31 #[.complex .f32 ms[i].gain.1 ms[i].gain.2, .float .f32 X] W fun e w' => e = .returned (.complex .f32 (scSC ms[i].gain X).1 (scSC ms[i].gain X).2) ∧ W = w' at ks
      generalize rows[s].c = cs at *
      go_wp2_with fail
      go_region_with (go_at_call 31; refine (ks _).mono ?_; rintro e5 w5 ⟨rfl, rfl⟩)
      all_goals
        go_wp2_with fail
        go_roundw
        case rel => exact ⟨i + 1, by go_num, by omega, HBR.out.far hgr _, by rw [← HSET.out]; exact (HOW.out.stored _ _).1, below_drewN (HBL.out.setCell (show w3.heap.size ≤ (⟨g, i * 2 + 1, none⟩ : Addr).block from hg1) _) _⟩
        case measure => simp [intOf]; omega
    · have hin : i = ms.length := by omega
      subst hin
      rw [partMs_end hlw] at HOW
      obtain ⟨w5, hw5⟩ : ∃ w5 : World, w5 = wr := ⟨_, rfl⟩
      subst hw5
      have hsz5 : w.heap.size ≤ w5.heap.size := HBW.out.size
      have HRM := Lib.hid (Rd.of_own HOW.out)
      have hlst := fun j => statesAt_length (scaledMs ms rows[s].ws) xs j
      clear HO HY3 HB3 HWS
      generalize hsm : scaledMs ms rows[s].ws = sm at *
      have kS := fun (i : Nat) (W : World) (hms : Rd W w5.heap.size 2 A2 sm.length (mdCells sm)) (hg : Blk W w5.heap.size 37 ((statesAt sm xs i).map cV).toArray) (h1 : StepsOk sm (statesAt sm xs i) (xs.getD i 0)) (h2 : SumOk (statesAt sm xs (i + 1))) =>
        w_step sm (statesAt sm xs i) (xs.getD i 0) A2 c2 w5.heap.size ms.length w5.heap.size W hms (hlst i) (Nat.le_refl _) hg (by omega) h1 h2
      rw [hlsc] at kS
      go_wp2_with fail
      go_loopw [13, 72] (LALoop2 sm xs m w w5 (.slice A ms.length c) (.slice S rows.length d)) (fun _ s72 _ => m - (intOf s72).toNat)
      case atStart =>
        refine ⟨0, rfl, Nat.zero_le _, ?_, ?_, (HBR.out.alloc _).alloc _, ((Below.refl _ _).alloc (Nat.le_refl _) _).alloc (by simp) _⟩
        · have h := World.ownsRow_made (base := w5.heap.size) (e := 34) (size := 1) (w5.alloc (Obj.cells ((List.replicate ms.length ((0, 0) : C2)).map cV).toArray 37)) #[] 0 (by simp) (by simp) rfl
          simpa [ringL] using h
        · have h := (Blk.new w5 37 (Array.replicate ms.length (cV (0, 0)))).alloc (Obj.cells #[] 34)
          simpa [statesAt, hlsc] using h
      case round =>
        obtain ⟨i, rfl, hi', how, hst, hbx, hbl⟩ := hrel
        obtain ⟨A9, c9, rfl⟩ := own_form how
        have HO := Lib.hid how
        have HS := Lib.hid hst
        have HBX := Lib.hid hbx
        have HBL2 := Lib.hid hbl
        have hsz3 : w5.heap.size ≤ wr.heap.size := hbl.size
        have HBW2 := Lib.hid (HBW.out.trans (hbl.mono hsz5))
        have HRx := Lib.hid (HRM.out.below hbl)
        have HXx := Lib.hid ((HX.out.below HBW2.out).more (B' := wr.heap.size) (by omega))
        clear how hst hbx hbl r0 r1
        by_cases hlt : i < m
        · have HOKi := Lib.hid (HOK.out i hlt)
          have HEr := Lib.hid (ringL_succ sm xs i)
          obtain ⟨eb, eo, hEa, heb, hec⟩ := HE.out.at_ (by omega)
          have e0 := (HBW2.out.cell (p := ⟨eb, eo + i, none⟩) heb).trans (hec i (.int .i64 p) (by simp [hlt]))
          subst hEa
          clear hec
          go_wp2_with fail
          refine (kE i _ HXx.out (by omega) (by omega)).mono ?_
          rintro e6 w6 ⟨rfl, rfl⟩
          go_wp2_with fail
          refine (kS i _ HRx.out HS.out HOKi.out.1 HOKi.out.2).mono ?_
          rintro e7 w7 ⟨rfl, hs7, hg7⟩
          rw [statesAt_succ] at hs7
          have hszw : w.heap.size < w5.heap.size := HBR.out.lt
          have HO7 := Lib.hid (own_grown HO.out hg7 (own_blk_ne HO.out HS.out (by decide)))
          have HX7 := Lib.hid (HBX.out.grown hg7 (by simp; omega))
          have HB7 := Lib.hid (HBL2.out.trans (below_of_grown hg7 hsz3 (by intro x hx; injection hx with hx; omega)))
          have HBW7 := Lib.hid (HBW.out.trans (HB7.out.mono hsz5))
          have HS7 := Lib.hid hs7
          have hz7 : wr.heap.size ≤ w7.heap.size := hg7.size
          have r1 : w7.cell? ⟨w.heap.size, 1, none⟩ = some (.slice S rows.length d) := HX7.out.cell 1
          have hlz := hlst (i + 1)
          rw [hlsc] at hlz
          have HMUi := Lib.hid (HMUL.out i hlt)
          have hou : Hid (outOf (statesAt sm xs (i + 1)) = outAt sm xs i) := Lib.hid rfl
          clear hs7 hg7 HO HBX HBL2 HBW2 HRx HXx HS kS kE e0
          generalize hZ : statesAt sm xs (i + 1) = Z at *
          go_wp2_with fail
          go_loopw [16, 85] (fun s16 s85 wx => (∃ k : Nat, s85 = .int .i64 k ∧ k ≤ ms.length ∧ s16 = .float .f32 (outOf (Z.take k))) ∧ w7 = wx) (fun _ s85 _ => ms.length - (intOf s85).toNat)
          case atStart => exact ⟨⟨0, rfl, Nat.zero_le _, rfl⟩, rfl⟩
          case round =>
            obtain ⟨⟨k, rfl, hk, rfl⟩, rfl⟩ := hrel
            by_cases hkl : k < ms.length
            · have hkz : k < Z.length := by omega
              obtain ⟨sb, so, hS, hsb, hsc⟩ := (HR.out.shapes.below HBW7.out).at_ (by omega)
              have s0 : w7.cell? ⟨sb, so + p, none⟩ = some (rowV rows[p]) := hsc p _ (by simp [hp])
              obtain ⟨p0, q0, hA0, hp0, hc2⟩ := ((HR.out.rows_ _ (List.getElem_mem hp)).below HBW7.out).at_ (by omega)
              have v0 : w7.cell? ⟨p0, q0 + k, none⟩ = some (.float .f32 (one .f32)) := hc2 k _ (by rw [HONE.out]; simp [flV, hkl])
              have z0 : w7.cell? ⟨w5.heap.size, k, none⟩ = some (.complex .f32 Z[k].1 Z[k].2) := (HS7.out.cell k).trans (by simp [hkz, cV])
              have cm := fb_rule (t := 34) (HMUi.out _ (List.getElem_mem hkz))
              have ca := fb_rule (t := 34) (HOKi.out.2 k Z[k] (List.getElem?_eq_getElem hkz))
              rw [outOf_take hkz] at ca
              unfold rowV at s0
              rw [hlp, hA0] at s0
              subst hS
              clear hsc hc2
              generalize rows[p].c = cp at *
              generalize outOf (Z.take k) = u1 at *
              generalize hu2 : outOf (Z.take (k + 1)) = u2 at *
              generalize Z[k].1 = zr at *
              generalize Z[k].2 = zi at *
              generalize one .f32 = o1 at *
              go_wp2_with fail
              go_roundw
              case rel => exact ⟨⟨k + 1, by go_num, by omega, by rw [hu2]⟩, trivial⟩
              case measure => simp [intOf]; omega
            · have hkk : k = ms.length := by omega
              subst hkk
              rw [List.take_of_length_le (by omega)]
              rw [hou.out]
              have HE7 : Hid ((ringL sm xs (i + 1)).map flV = (ringL sm xs i).map flV ++ [.float .f32 (outAt sm xs i)]) := Lib.hid (by rw [HEr.out, List.map_append]; rfl)
              generalize outAt sm xs i = oa at *
              go_wp2_with (at_builtin; refine wpList_append_any _ rfl (.tmp 105) (.tmp 107) _ rfl w5.heap.size 34 i1 _ 1 4 Try.underlying27 hi1 hf1 hf2 hf3 rfl (by decide) _ _ _ rfl (HO7.out.alloc _) _ _ 1 1 _ rfl (reads_new _ _ 1 1 _ rfl) (by intro u hu; simp at hu; subst hu; rfl) (by unfold maxLen; omega) (by omega) (by simp; omega) ?_; intro v4 w4 hown4 hgr4 hat4)
              have HO4 := Lib.hid hown4
              have HS4 := Lib.hid ((HS7.out.alloc (Obj.cells #[Value.float .f32 oa] 34)).grown hgr4 (Ne.symm (own_blk_ne HO7.out HS7.out (by decide))))
              have HX4 := Lib.hid ((HX7.out.alloc (Obj.cells #[Value.float .f32 oa] 34)).grown hgr4 (Ne.symm (own_blk_ne HO7.out HX7.out (by decide))))
              have HB4 := Lib.hid ((HB7.out.alloc (by omega) _).grown hgr4 (by simp; omega) (own_base HO7.out))
              clear hown4 hgr4 hat4
              go_wp2_with fail
              go_roundw
              case rel => exact ⟨i + 1, by go_num, by omega, by rw [HE7.out]; exact HO4.out, by rw [hZ]; exact HS4.out, HX4.out, HB4.out⟩
              case measure => simp [intOf]; omega
        · have hin : i = m := by omega
          subst hin
          have HF := Lib.hid (HBW.out.trans (HBL2.out.mono hsz5))
          go_wp2
          go_ret2
          exact ⟨A9, c9, rfl, by rw [hsm]; exact own_lower HO.out hsz5, HF.out⟩

end Go.Proofs.Ytfkbbicacgeiiaa
