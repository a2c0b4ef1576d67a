/- Walks: two rooms share their modes, behind a shut door. -/
import Derived.Test.YtfkbbicacgeiiaaW18
namespace Go.Proofs.Ytfkbbicacgeiiaa
open Go.RowKit

attribute [local go_sem] run_store_float run_store_complex alloc_drewN setCell_drewN

def shareWs (ra rb : List RowD) : List (List Nat) :=
  ra.map (fun r => r.ws ++ forcedL ((rb.map RowD.ws).headD []) 0) ++ rb.map (fun r => forcedL ((ra.map RowD.ws).headD []) 0 ++ r.ws)

theorem mul_shut {y : Nat} (h : Bd .f32 4 y) : floatBits .mul .f32 y 0 = some (fb .mul .f32 y 0) := (mul_ok h ((isZ_zero .f32).bd 0) (by decide) (by decide)).1

set_option maxRecDepth 10000 in
set_option maxHeartbeats 8000000 in
theorem w_share (ma mb : List Md) (ra rb : List RowD) (a0 b0 : RowD) (A S A' S' : Option Addr) (c d c' d' : Nat) (w : World) (hra : RoomAt w w.heap.size A ma S ra) (hrb : RoomAt w w.heap.size A' mb S' rb) (hga : RoomGood ma ra) (hgb : RoomGood mb rb)
    (h0a : ra[0]? = some a0) (h0b : rb[0]? = some b0)
    (hgo : ∀ rows : List RowD, rows.map RowD.ws = ra.map (fun r => r.ws ++ forcedL b0.ws 0) ++ rb.map (fun r => forcedL a0.ws 0 ++ r.ws) → RoomGood (ma ++ mb) rows) :
    Calls Try.prog 18 #[.agg #[.slice A ma.length c, .slice S ra.length d], .agg #[.slice A' mb.length c', .slice S' rb.length d'], .float .f32 0] w
      (SharePost (ma ++ mb) (ra.map (fun r => r.ws ++ forcedL b0.ws 0) ++ rb.map (fun r => forcedL a0.ws 0 ++ r.ws)) w) := by
  have hla : 0 < ra.length := (List.getElem?_eq_some_iff.1 h0a).1
  have hlb : 0 < rb.length := (List.getElem?_eq_some_iff.1 h0b).1
  have hma : a0 ∈ ra := List.mem_of_getElem? h0a
  have hmb : b0 ∈ rb := List.mem_of_getElem? h0b
  have ha1 := hga.few
  have ha2 := hga.places
  have hb1 := hgb.few
  have hb2 := hgb.places
  have k := fun (W : World) (h : RoomAt W W.heap.size A ma S ra) => w_isRoom ma ra A S c d W h hga
  have k' := fun (W : World) (h : RoomAt W W.heap.size A' mb S' rb) => w_isRoom mb rb A' S' c' d' W h hgb
  have kc := fun (g c3 : Nat) (W : World) (h : Blk W g 23 #[.slice A ma.length c, .slice A' mb.length c']) (h1 : Rd W W.heap.size 2 A ma.length (mdCells ma)) (h2 : Rd W W.heap.size 2 A' mb.length (mdCells mb)) =>
    w_concatM (mdCells ma) (mdCells mb) ma.length mb.length A A' c c' g c3 W h h1 h2 (mdCells_one ma) (mdCells_one mb) (by omega) (by omega)
  have kfa := fun (W : World) (h : Rd W W.heap.size 1 a0.A ma.length (a0.ws.map flV)) => w_forced' a0.ws ma.length 0 a0.A a0.c W (hga.rows_ _ hma).1 h (fun y hy => mul_shut ((hga.rows_ _ hma).2 y hy)) (by omega)
  have kfb := fun (W : World) (h : Rd W W.heap.size 1 b0.A mb.length (b0.ws.map flV)) => w_forced' b0.ws mb.length 0 b0.A b0.c W (hgb.rows_ _ hmb).1 h (fun y hy => mul_shut ((hgb.rows_ _ hmb).2 y hy)) (by omega)
  have HAA := Lib.hid hra
  have HBB := Lib.hid hrb
  have HGA := Lib.hid hga
  have HGB := Lib.hid hgb
  have HGO := Lib.hid hgo
  have H0A := Lib.hid h0a
  have H0B := Lib.hid h0b
  have HLA : Hid (a0.ws.length = ma.length) := Lib.hid (hga.rows_ _ hma).1
  have HLB : Hid (b0.ws.length = mb.length) := Lib.hid (hgb.rows_ _ hmb).1
  have HMA := Lib.hid hma
  have HMB := Lib.hid hmb
  clear hra hrb hga hgb hgo h0a h0b hma hmb
  obtain ⟨i2, hi2, hr1, hr2, hr3⟩ := info_parts info_row
  go_enter Try.func18, Try.ntmps18
  go_wp2_with fail
  refine (k _ (((HAA.out.allocM _).allocM _).allocM _)).mono ?_
  rintro e1 w1 ⟨rfl, hb⟩
  have X0 := Lib.hid ((((Blk.new w 47 #[Value.slice A ma.length c, Value.slice S ra.length d]).alloc (Obj.cells #[Value.slice A' mb.length c', Value.slice S' rb.length d'] 47)).alloc (Obj.cells #[Value.slice none 0 0, Value.slice none 0 0] 47)).below hb (by simp; omega))
  have X1 := Lib.hid (((Blk.new (w.alloc (Obj.cells #[Value.slice A ma.length c, Value.slice S ra.length d] 47)) 47 #[Value.slice A' mb.length c', Value.slice S' rb.length d']).alloc (Obj.cells #[Value.slice none 0 0, Value.slice none 0 0] 47)).below hb (by simp))
  have X2 := Lib.hid ((Blk.new ((w.alloc (Obj.cells #[Value.slice A ma.length c, Value.slice S ra.length d] 47)).alloc (Obj.cells #[Value.slice A' mb.length c', Value.slice S' rb.length d'] 47)) 47 #[Value.slice none 0 0, Value.slice none 0 0]).below hb (by simp))
  rw [show (w.alloc (Obj.cells #[Value.slice A ma.length c, Value.slice S ra.length d] 47)).heap.size = w.heap.size + 1 by simp] at X1
  rw [show ((w.alloc (Obj.cells #[Value.slice A ma.length c, Value.slice S ra.length d] 47)).alloc (Obj.cells #[Value.slice A' mb.length c', Value.slice S' rb.length d'] 47)).heap.size = w.heap.size + 2 by simp] at X2
  have B1 := Lib.hid (((((Below.refl _ _).alloc (Nat.le_refl w.heap.size) _).alloc (by simp) _).alloc (by simp; omega) _).trans (hb.mono (by simp; omega)))
  have x0 : w1.cell? ⟨w.heap.size, 0, none⟩ = some (.slice A ma.length c) := X0.out.cell 0
  have x1 : w1.cell? ⟨w.heap.size, 1, none⟩ = some (.slice S ra.length d) := X0.out.cell 1
  have x2 : w1.cell? ⟨w.heap.size + 1, 0, none⟩ = some (.slice A' mb.length c') := X1.out.cell 0
  have x3 : w1.cell? ⟨w.heap.size + 1, 1, none⟩ = some (.slice S' rb.length d') := X1.out.cell 1
  clear hb k
  go_wp2_with fail
  refine (k' _ ((HBB.out.below B1.out).more B1.out.size)).mono ?_
  rintro e1 w2 ⟨rfl, hb⟩
  have Y0 := Lib.hid (X0.out.below hb X0.out.lt)
  have Y1 := Lib.hid (X1.out.below hb X1.out.lt)
  have Y2 := Lib.hid (X2.out.below hb X2.out.lt)
  have B2 := Lib.hid (B1.out.trans (hb.mono B1.out.size))
  clear hb k' X0 X1 X2 B1 x0 x1 x2 x3
  have x0 : w2.cell? ⟨w.heap.size, 0, none⟩ = some (.slice A ma.length c) := Y0.out.cell 0
  have x1 : w2.cell? ⟨w.heap.size, 1, none⟩ = some (.slice S ra.length d) := Y0.out.cell 1
  have x2 : w2.cell? ⟨w.heap.size + 1, 0, none⟩ = some (.slice A' mb.length c') := Y1.out.cell 0
  have x3 : w2.cell? ⟨w.heap.size + 1, 1, none⟩ = some (.slice S' rb.length d') := Y1.out.cell 1
  have hs2 : w.heap.size + 2 < w2.heap.size := Y2.out.lt
  have hla' : ((ra.length : Int) == 0) = false := by rw [beq_eq_false_iff_ne]; omega
  have hlb' : ((rb.length : Int) == 0) = false := by rw [beq_eq_false_iff_ne]; omega
  go_wp2_with fail
  refine (kc _ _ _ (Blk.new _ _ _) (((HAA.out.modes.below B2.out).more B2.out.size).allocM _) (((HBB.out.modes.below B2.out).more B2.out.size).allocM _)).mono ?_
  rintro e1 w3 ⟨AM, cM, rfl, ho, hb⟩
  have hb' := ((Below.refl w2.heap.size w2).alloc (Nat.le_refl _) (Obj.cells #[Value.slice A ma.length c, Value.slice A' mb.length c'] 23)).trans (hb.mono (by simp))
  have Z0 := Lib.hid (Y0.out.below hb' Y0.out.lt)
  have Z1 := Lib.hid (Y1.out.below hb' Y1.out.lt)
  have Z2 := Lib.hid (Y2.out.below hb' Y2.out.lt)
  have B3 := Lib.hid (B2.out.trans (hb'.mono B2.out.size))
  have OM := Lib.hid (own_lower (base' := w.heap.size) ho (by simp; omega))
  rw [← mdCells_append] at OM
  have hs3 : w.heap.size + 2 < w3.heap.size := Z2.out.lt
  have hs30 : w.heap.size < w3.heap.size := by omega
  have hs31 : w.heap.size + 1 < w3.heap.size := by omega
  clear hb hb' ho kc x0 x1 x2 x3 Y0 Y1 Y2
  have x0 : w3.cell? ⟨w.heap.size, 0, none⟩ = some (.slice A ma.length c) := Z0.out.cell 0
  have x1 : w3.cell? ⟨w.heap.size, 1, none⟩ = some (.slice S ra.length d) := Z0.out.cell 1
  go_wp2_with fail
  go_loopw [44] (ShareLoop w w3.heap.size (ma.length + mb.length) (.slice A ma.length c) (.slice S ra.length d) (.slice A' mb.length c') (.slice S' rb.length d') (.slice AM (ma.length + mb.length) cM) (mdCells (ma ++ mb)) (fun i => (ra.take i).map (fun r => r.ws ++ forcedL b0.ws 0)) ra.length 0) (fun s44 _ => ra.length - (intOf s44).toNat)
  case atStart => exact ⟨0, rfl, Nat.zero_le _, none, 0, [], Blk.new _ _ _, World.ownsRow_nil _ _ _ _, fun r hr => by simp at hr, rfl, Z0.out.alloc _, Z1.out.alloc _, Z2.out.alloc _, OM.out.alloc _, B3.out.alloc (by omega) _⟩
  case round =>
    obtain ⟨i, rfl, hi, S9, d9, rows, hbo, hos, hor, hwss, hz0, hz1, hz2, hom, hbl⟩ := hrel
    rw [Nat.zero_add] at hbo hos
    dsimp only at hwss
    have HBO := Lib.hid hbo
    have HOS := Lib.hid hos
    have HOR := Lib.hid hor
    have HW := Lib.hid hwss
    have HZ0 := Lib.hid hz0
    have HZ1 := Lib.hid hz1
    have HZ2 := Lib.hid hz2
    have HOM := Lib.hid hom
    have HBL := Lib.hid hbl
    have hszr : w.heap.size ≤ wr.heap.size := hbl.size
    have hbolt := hbo.lt
    have y2 : wr.cell? ⟨w.heap.size + 1, 0, none⟩ = some (.slice A' mb.length c') := hz1.cell 0
    have y3 : wr.cell? ⟨w.heap.size + 1, 1, none⟩ = some (.slice S' rb.length d') := hz1.cell 1
    have y0 : wr.cell? ⟨w.heap.size, 0, none⟩ = some (.slice A ma.length c) := hz0.cell 0
    have y1 : wr.cell? ⟨w.heap.size, 1, none⟩ = some (.slice S ra.length d) := hz0.cell 1
    have q1 : wr.cell? ⟨w3.heap.size, 1, none⟩ = some (.slice S9 i d9) := hbo.cell 1
    clear hbo hos hor hwss hz0 hz1 hz2 hom hbl x0 x1 Z0 Z1 Z2 B3 OM
    by_cases hlt : i < ra.length
    · obtain ⟨sb, so, hS, hsb, hsc⟩ := (HAA.out.below HBL.out).row i hlt
      obtain ⟨tb, tq, hT, htb, htc⟩ := (HBB.out.below HBL.out).row 0 (by omega)
      have hF0 : rb[0]'(by omega) = b0 := (List.getElem?_eq_some_iff.1 H0B.out).2
      rw [hF0] at htc
      have hlr : ra[i].ws.length = ma.length := (HGA.out.rows_ _ (List.getElem_mem hlt)).1
      have HLR := Lib.hid hlr
      have hlf := HLB.out
      unfold rowV at hsc htc
      rw [hlr] at hsc
      rw [hlf] at htc
      have RR := Lib.hid ((HAA.out.below HBL.out).rows_ _ (List.getElem_mem hlt))
      have RF := Lib.hid ((HBB.out.below HBL.out).rows_ _ HMB.out)
      rw [hlr] at RR
      rw [hlf] at RF
      rw [Nat.add_zero] at htc
      subst hS
      subst hT
      clear hlr hlf hF0
      have HNL : Hid ((ra[i].ws ++ forcedL b0.ws 0).length = ma.length + mb.length) := Lib.hid (by rw [List.length_append]; rw [HLR.out]; simp [forcedL, HLB.out])
      have HTK : Hid ((ra.take (i + 1)).map (fun r => r.ws ++ forcedL b0.ws 0) = ((ra.take i).map (fun r => r.ws ++ forcedL b0.ws 0)) ++ [ra[i].ws ++ forcedL b0.ws 0]) := Lib.hid (by rw [List.take_succ_eq_append_getElem hlt, List.map_append]; rfl)
      generalize ra[i].A = rA at *
      generalize ra[i].c = rC at *
      go_wp2_with fail
      go_region_law (first
        | (go_simp; go_at_call 43; refine (kfb _ (by exact RF.out.more hszr)).mono ?_; rintro e4 w4 ⟨A4, c4, rfl, ho4, hb40⟩; have hb4 : Below wr.heap.size wr w4 := ⟨hb40.os, hb40.tape, hb40.output, hb40.size, hb40.block⟩; have hs4 : wr.heap.size ≤ w4.heap.size := hb4.size; have BO4 := Lib.hid (Blk.below (w := wr) HBO.out hb4 hbolt); have f1 : w4.cell? ⟨w3.heap.size, 1, none⟩ = some (.slice S9 i d9) := BO4.out.cell 1; have l4 : w3.heap.size < w4.heap.size := BO4.out.lt; have H4 := Lib.hid hb4; have O4 := Lib.hid ho4; clear hb4 hb40 ho4)
        | (go_simp; go_at_call 42; refine (w_catF ra[i].ws (forcedL b0.ws 0) ma.length mb.length rA A4 rC c4 _ w4.heap.size _ (by exact Blk.new _ _ _) (by exact ((RR.out.more hszr).below H4.out |>.more hs4).allocM _) (by exact (Rd.of_own O4.out).allocM _) (by omega) (by omega)).mono ?_; rintro e5 w5 ⟨A5, c5, rfl, ho5, hb5⟩; have hb5' := ((Below.refl w4.heap.size w4).alloc (Nat.le_refl _) (Obj.cells #[Value.slice rA ma.length rC, Value.slice A4 mb.length c4] 27)).trans (hb5.mono (by simp)); have hs5 : w4.heap.size ≤ w5.heap.size := hb5'.size; have BO5 := Lib.hid (BO4.out.below hb5' BO4.out.lt); have g1 : w5.cell? ⟨w3.heap.size, 1, none⟩ = some (.slice S9 i d9) := BO5.out.cell 1; have l5 : w3.heap.size < w5.heap.size := BO5.out.lt; have H5 := Lib.hid (H4.out.trans (hb5'.mono hs4)); have O5 := Lib.hid (own_lower (base' := w.heap.size) ho5 (by simp; omega)); have S5 := Lib.hid (own_below (w := wr) HOS.out H5.out); clear hb5 hb5' ho5)
        | (refine step_append_any _ rfl (.tmp 49) (.tmp 59) _ rfl w.heap.size 27 i2 _ 1 24 Try.underlying45 hi2 hr1 hr2 hr3 rfl (by decide) (.slice S9 i d9) i _ (by simp [Act.eval]) (S5.out.alloc _) _ (some ⟨w5.heap.size, 0, none⟩) 1 1 _ (by simp [Act.eval]) (reads_new w5 _ 1 1 _ (by rfl)) (by intro u hu; simp at hu; subst hu; rfl) (by unfold maxLen; omega) (by omega) (by simp; omega) ?_; intro v7 w7 hown7 hgr7 hat7; have BO7 := (BO5.out.alloc (Obj.cells #[Value.slice A5 (ma.length + mb.length) c5] 27)).grown hgr7 (Ne.symm (own_blk_ne S5.out BO5.out (by decide))); have u0 := BO7.frozen 1; have u1 : w7.cell? ⟨w3.heap.size, 1, none⟩ = some (.slice S9 i d9) := BO7.cell 1; have HO7 := Lib.hid hown7; obtain ⟨A7, c7, rfl⟩ := own_form hown7))
      all_goals
        have HS7 := Lib.hid (share_next HBO.out HOS.out HOR.out HW.out HZ0.out HZ1.out HZ2.out HOM.out HBL.out hs3 H5.out HNL.out O5.out HO7.out hgr7)
        clear hown7 hgr7 hat7 BO7 u0 u1
        go_wp2_with fail
        go_roundw
        case rel => exact ⟨i + 1, by go_num, by omega, by have h := HS7.out; rw [← HTK.out] at h; simpa only [Nat.zero_add] using h⟩
        case measure => simp [intOf]; omega
    · have hie : i = ra.length := by omega
      subst hie
      simp only [List.take_length] at HW
      obtain ⟨w8, hw8⟩ : ∃ w8 : World, w8 = wr := ⟨_, rfl⟩
      subst hw8
      clear hlt hi y0 y1 q1
      go_wp2_with fail
      go_loopw [66] (ShareLoop w w3.heap.size (ma.length + mb.length) (.slice A ma.length c) (.slice S ra.length d) (.slice A' mb.length c') (.slice S' rb.length d') (.slice AM (ma.length + mb.length) cM) (mdCells (ma ++ mb)) (fun i => ra.map (fun r => r.ws ++ forcedL b0.ws 0) ++ (rb.take i).map (fun r => forcedL a0.ws 0 ++ r.ws)) rb.length ra.length) (fun s66 _ => rb.length - (intOf s66).toNat)
      case atStart => exact ⟨0, rfl, Nat.zero_le _, S9, d9, rows, HBO.out, HOS.out, HOR.out, by simpa using HW.out, HZ0.out, HZ1.out, HZ2.out, HOM.out, HBL.out⟩
      case round =>
        clear HBO HOS HOR HW HZ0 HZ1 HZ2 HOM HBL hszr hbolt y2 y3
        obtain ⟨i, rfl, hi, S9, d9, rows, hbo, hos, hor, hwss, hz0, hz1, hz2, hom, hbl⟩ := hrel
        dsimp only at hwss
        have HBO := Lib.hid hbo
        have HOS := Lib.hid hos
        have HOR := Lib.hid hor
        have HW := Lib.hid hwss
        have HZ0 := Lib.hid hz0
        have HZ1 := Lib.hid hz1
        have HZ2 := Lib.hid hz2
        have HOM := Lib.hid hom
        have HBL := Lib.hid hbl
        have hszr : w.heap.size ≤ wr.heap.size := hbl.size
        have hbolt := hbo.lt
        have y0 : wr.cell? ⟨w.heap.size, 0, none⟩ = some (.slice A ma.length c) := hz0.cell 0
        have y1 : wr.cell? ⟨w.heap.size, 1, none⟩ = some (.slice S ra.length d) := hz0.cell 1
        have q0 : wr.cell? ⟨w3.heap.size, 0, none⟩ = some (.slice AM (ma.length + mb.length) cM) := hbo.cell 0
        have q1 : wr.cell? ⟨w3.heap.size, 1, none⟩ = some (.slice S9 (ra.length + i) d9) := hbo.cell 1
        clear hbo hos hor hwss hz0 hz1 hz2 hom hbl
        by_cases hlt : i < rb.length
        · obtain ⟨sb, so, hS, hsb, hsc⟩ := (HBB.out.below HBL.out).row i hlt
          obtain ⟨tb, tq, hT, htb, htc⟩ := (HAA.out.below HBL.out).row 0 (by omega)
          have hF0 : ra[0]'(by omega) = a0 := (List.getElem?_eq_some_iff.1 H0A.out).2
          rw [hF0] at htc
          have hlr : rb[i].ws.length = mb.length := (HGB.out.rows_ _ (List.getElem_mem hlt)).1
          have HLR := Lib.hid hlr
          have hlf := HLA.out
          unfold rowV at hsc htc
          rw [hlr] at hsc
          rw [hlf] at htc
          have RR := Lib.hid ((HBB.out.below HBL.out).rows_ _ (List.getElem_mem hlt))
          have RF := Lib.hid ((HAA.out.below HBL.out).rows_ _ HMA.out)
          rw [hlr] at RR
          rw [hlf] at RF
          rw [Nat.add_zero] at htc
          subst hS
          subst hT
          clear hlr hlf hF0
          have HNL : Hid ((forcedL a0.ws 0 ++ rb[i].ws).length = ma.length + mb.length) := Lib.hid (by rw [List.length_append]; rw [HLR.out]; simp [forcedL, HLA.out])
          have HTK : Hid (ra.map (fun r => r.ws ++ forcedL b0.ws 0) ++ (rb.take (i + 1)).map (fun r => forcedL a0.ws 0 ++ r.ws) = (ra.map (fun r => r.ws ++ forcedL b0.ws 0) ++ (rb.take i).map (fun r => forcedL a0.ws 0 ++ r.ws)) ++ [forcedL a0.ws 0 ++ rb[i].ws]) := Lib.hid (by rw [List.take_succ_eq_append_getElem hlt, List.map_append, ← List.append_assoc]; rfl)
          generalize rb[i].A = rA at *
          generalize rb[i].c = rC at *
          go_wp2_with fail
          go_region_law (first
            | (go_simp; go_at_call 43; refine (kfa _ (by exact RF.out.more hszr)).mono ?_; rintro e4 w4 ⟨A4, c4, rfl, ho4, hb40⟩; have hb4 : Below wr.heap.size wr w4 := ⟨hb40.os, hb40.tape, hb40.output, hb40.size, hb40.block⟩; have hs4 : wr.heap.size ≤ w4.heap.size := hb4.size; have BO4 := Lib.hid (Blk.below (w := wr) HBO.out hb4 hbolt); have f1 : w4.cell? ⟨w3.heap.size, 1, none⟩ = some (.slice S9 (ra.length + i) d9) := BO4.out.cell 1; have l4 : w3.heap.size < w4.heap.size := BO4.out.lt; have H4 := Lib.hid hb4; have O4 := Lib.hid ho4; clear hb4 hb40 ho4)
            | (go_simp; go_at_call 42; refine (w_catF (forcedL a0.ws 0) rb[i].ws ma.length mb.length A4 rA c4 rC _ w4.heap.size _ (by exact Blk.new _ _ _) (by exact (Rd.of_own O4.out).allocM _) (by exact ((RR.out.more hszr).below H4.out |>.more hs4).allocM _) (by omega) (by omega)).mono ?_; rintro e5 w5 ⟨A5, c5, rfl, ho5, hb5⟩; have hb5' := ((Below.refl w4.heap.size w4).alloc (Nat.le_refl _) (Obj.cells #[Value.slice A4 ma.length c4, Value.slice rA mb.length rC] 27)).trans (hb5.mono (by simp)); have hs5 : w4.heap.size ≤ w5.heap.size := hb5'.size; have BO5 := Lib.hid (BO4.out.below hb5' BO4.out.lt); have g1 : w5.cell? ⟨w3.heap.size, 1, none⟩ = some (.slice S9 (ra.length + i) d9) := BO5.out.cell 1; have l5 : w3.heap.size < w5.heap.size := BO5.out.lt; have H5 := Lib.hid (H4.out.trans (hb5'.mono hs4)); have O5 := Lib.hid (own_lower (base' := w.heap.size) ho5 (by simp; omega)); have S5 := Lib.hid (own_below (w := wr) HOS.out H5.out); clear hb5 hb5' ho5)
            | (refine step_append_any _ rfl (.tmp 71) (.tmp 81) _ rfl w.heap.size 27 i2 _ 1 24 Try.underlying45 hi2 hr1 hr2 hr3 rfl (by decide) (.slice S9 (ra.length + i) d9) (ra.length + i) _ (by simp [Act.eval]) (S5.out.alloc _) _ (some ⟨w5.heap.size, 0, none⟩) 1 1 _ (by simp [Act.eval]) (reads_new w5 _ 1 1 _ (by rfl)) (by intro u hu; simp at hu; subst hu; rfl) (by unfold maxLen; omega) (by omega) (by simp; omega) ?_; intro v7 w7 hown7 hgr7 hat7; have BO7 := (BO5.out.alloc (Obj.cells #[Value.slice A5 (ma.length + mb.length) c5] 27)).grown hgr7 (Ne.symm (own_blk_ne S5.out BO5.out (by decide))); have u0 := BO7.frozen 1; have u1 : w7.cell? ⟨w3.heap.size, 1, none⟩ = some (.slice S9 (ra.length + i) d9) := BO7.cell 1; have HO7 := Lib.hid hown7; obtain ⟨A7, c7, rfl⟩ := own_form hown7))
          all_goals
            have HS7 := Lib.hid (share_next HBO.out HOS.out HOR.out HW.out HZ0.out HZ1.out HZ2.out HOM.out HBL.out hs3 H5.out HNL.out O5.out HO7.out hgr7)
            clear hown7 hgr7 hat7 BO7 u0 u1
            go_wp2_with fail
            go_roundw
            case rel => exact ⟨i + 1, by go_num, by omega, by have h := HS7.out; rw [← HTK.out] at h; exact h⟩
            case measure => simp [intOf]; omega
        · have hie : i = rb.length := by omega
          subst hie
          simp only [List.take_length] at HW
          have hlrows : rows.length = ra.length + rb.length := by
            have h := congrArg List.length HW.out
            simpa using h
          have HGR := Lib.hid (HGO.out rows HW.out)
          have HR9 := Lib.hid (roomAt_own (A := AM) (c := cM) (ms := ma ++ mb) (S := S9) (d := d9) (rows := rows) (by rw [List.length_append]; exact HOM.out) (by rw [hlrows]; exact HOS.out) HOR.out)
          have kI := fun (W : World) (h : RoomAt W W.heap.size AM (ma ++ mb) S9 rows) => w_isRoom (ma ++ mb) rows AM S9 cM d9 W h HGR.out
          rw [List.length_append, hlrows] at kI
          have HLR := Lib.hid hlrows
          clear hlrows
          go_wp2_with fail
          refine (kI _ HR9.out).mono ?_
          rintro e9 w9 ⟨rfl, hb9⟩
          have BO9 := Lib.hid (HBO.out.below hb9 hbolt)
          have Z9 := Lib.hid (HZ2.out.below hb9 HZ2.out.lt)
          have OM9 := Lib.hid (own_below HOM.out hb9)
          have OS9 := Lib.hid (own_below HOS.out hb9)
          have OR9 := Lib.hid (OwnRows.below HOR.out hb9)
          have B9 := Lib.hid (HBL.out.trans (hb9.mono hszr))
          have z0 : w9.cell? ⟨w.heap.size + 2, 0, none⟩ = some (.slice none 0 0) := Z9.out.cell 0
          have z1 : w9.cell? ⟨w.heap.size + 2, 1, none⟩ = some (.slice none 0 0) := Z9.out.cell 1
          have z2 := Z9.out.frozen 0
          have z3 := Z9.out.frozen 1
          have p0 : w9.cell? ⟨w3.heap.size, 0, none⟩ = some (.slice AM (ma.length + mb.length) cM) := BO9.out.cell 0
          have p1 : w9.cell? ⟨w3.heap.size, 1, none⟩ = some (.slice S9 (ra.length + rb.length) d9) := BO9.out.cell 1
          clear hb9 kI q0 q1 y0 y1
          go_wp2
          refine bodyPost_ret (v := .tuple #[.agg #[.slice AM (ma.length + mb.length) cM, .slice S9 (ra.length + rb.length) d9], .bool true]) (by simp [results, Try.results18, go_sem, z0, z1]) rfl ?_
          refine ⟨AM, cM, S9, d9, rows, by rw [List.length_append, HLR.out], ?_, HW.out, (B9.out.setCell (by simp; omega) _).setCell (by simp; omega) _⟩
          have Z9' := Z9.out.set_ 0 (.slice AM (ma.length + mb.length) cM)
          exact roomAt_own (base := w.heap.size) (c := cM) (d := d9) (by rw [List.length_append]; exact own_set (own_set OM9.out (own_blk_ne OM9.out Z9.out (by decide)) _) (own_blk_ne OM9.out Z9.out (by decide)) _)
            (by rw [HLR.out]; exact own_set (own_set OS9.out (own_blk_ne OS9.out Z9.out (by decide)) _) (own_blk_ne OS9.out Z9.out (by decide)) _)
            ((OR9.out.set Z9.out (by decide) 0 _).set Z9' (by decide) 1 _)

end Go.Proofs.Ytfkbbicacgeiiaa
