/- Walks: a body rings. -/
import Derived.Test.YtfkbbicacgeiiaaW6
import Derived.Test.YtfkbbicacgeiiaaG7
import Derived.Deep.RegionLaw
namespace Go.Proofs.Ytfkbbicacgeiiaa
open Go.RowKit

attribute [local go_sem] run_store_float run_store_complex alloc_drewN setCell_drewN

theorem info_c64 : (Try.prog.info? 37).map (fun i => (i.zero, i.size, i.bytes)) = some (some (.complex .f32 0 0), 1, 8) := by kernel_rfl

set_option maxHeartbeats 1000000 in
theorem w_element (xs : List Nat) (A : Option Addr) (c : Nat) (i : Nat) (w : World) (hr : Rd w w.heap.size 1 A xs.length (xs.map flV)) (hi : i ≤ 100000) (hl : xs.length ≤ 1000000) :
    Calls Try.prog 26 #[.slice A xs.length c, .int .i64 i] w fun e w' => e = .returned (.float .f32 (xs.getD i 0)) ∧ w = w' := by
  by_cases hlt : i < xs.length
  · obtain ⟨b, o, rfl, hbl, hcell⟩ := hr.at_ (by omega)
    have hc : w.cell? ⟨b, o + i, none⟩ = some (.float .f32 xs[i]) := hcell i _ (by simp [hlt, flV])
    have e : xs.getD i 0 = xs[i] := by simp [hlt]
    rw [e]
    clear hcell hr e
    go_enter Try.func26, Try.ntmps26
    go_wp2
    go_ret
    exact ⟨rfl, rfl⟩
  · have e : xs.getD i 0 = 0 := by simp [hlt]
    rw [e]
    clear e hr
    go_enter Try.func26, Try.ntmps26
    go_wp2
    go_ret
    exact ⟨rfl, rfl⟩

theorem made_c64 (n : Nat) : madeCells (Value.complex .f32 0 0).cells (n * 1) = ((List.replicate n ((0, 0) : C2)).map cV).toArray := by
  have h := toList_madeCells_one (Value.complex .f32 0 0) n
  have e : (Value.complex .f32 0 0).cells = #[Value.complex .f32 0 0] := rfl
  rw [e, Nat.mul_one]
  apply Array.ext'
  rw [h]
  simp [cV]

def RingPost (ms : List Md) (xs : List Nat) (n : Nat) (w : World) (e : Ending) (w' : World) : Prop :=
  ∃ A c, e = .returned (.tuple #[.slice A n c, .bool true]) ∧ w'.ownsRow w.heap.size 34 1 (.slice A n c) n ((ringL ms xs n).map flV) ∧ Below w.heap.size w w'

def RingLoop (ms : List Md) (xs : List Nat) (n : Nat) (w w1 : World) (v0 : Value) (s9 s25 : Value) (wx : World) : Prop :=
  ∃ i : Nat, s25 = .int .i64 i ∧ i ≤ n ∧ wx.ownsRow w1.heap.size 34 1 s9 i ((ringL ms xs i).map flV) ∧ Blk wx w1.heap.size 37 ((statesAt ms xs i).map cV).toArray ∧ Blk wx w.heap.size 25 #[v0] ∧ Below w1.heap.size w1 wx

set_option maxRecDepth 10000 in
set_option maxHeartbeats 2000000 in
theorem w_ringBody (ms : List Md) (xs : List Nat) (A A' : Option Addr) (c c' n : Nat) (w : World) (hr : Rd w w.heap.size 2 A ms.length (mdCells ms)) (hx : Rd w w.heap.size 1 A' xs.length (xs.map flV))
    (hg : ∀ m ∈ ms, GoodMd m) (hl : ms.length ≤ 16) (hxl : xs.length ≤ 1000000) (hn : n ≤ 2000) (hok : RingOk ms xs n) :
    Calls Try.prog 9 #[.agg #[.slice A ms.length c], .slice A' xs.length c', .int .i64 n] w (RingPost ms xs n w) := by
  have kI := fun (W : World) (h : Rd W W.heap.size 2 A ms.length (mdCells ms)) => w_isBody ms A c W h hg hl
  have kC := fun (W : World) => w_count (n : Int) W (by omega) (by omega)
  have kE := fun (i : Nat) (W : World) (h : Rd W W.heap.size 1 A' xs.length (xs.map flV)) => w_element xs A' c' i W h
  have HR := Lib.hid hr
  have HX := Lib.hid hx
  have HOK := Lib.hid hok
  clear hr hx hg hok
  obtain ⟨i0, hi0, hz0, hz1, hz2⟩ := info_parts info_c64
  obtain ⟨i1, hi1, hf1, hf2, hf3⟩ := info_parts info_f32
  have hmk : ∀ W : World, (Instr.makeSlice 33 (.int .i64 (ms.length : Int)) (.int .i64 (ms.length : Int))).run Try.prog W = .ok (.slice (some ⟨W.heap.size, 0, none⟩) ms.length ms.length) (W.alloc (.cells ((List.replicate ms.length ((0, 0) : C2)).map cV).toArray 37)) := fun W => by
    have h := run_make_rowN (P := Try.prog) 33 37 i0 (.complex .f32 0 0) Try.underlying33 hi0 hz0 .i64 .i64 ms.length ms.length (Nat.le_refl _) (by rw [hz2]; omega) (by omega) W
    rw [hz1, made_c64] at h
    exact h
  go_enter Try.func9, Try.ntmps9
  go_wp2_with fail
  refine (kI _ (HR.out.allocM _)).mono ?_
  rintro e w1 ⟨rfl, hb1⟩
  have HB1 := Lib.hid (((Below.refl _ _).alloc (Nat.le_refl _) (Obj.cells #[Value.slice A ms.length c] 25)).trans (hb1.mono (by simp)))
  have HX1 : Hid (Blk w1 w.heap.size 25 #[.slice A ms.length c]) := Lib.hid ((Blk.new w _ _).below hb1 (by simp))
  have b0 : w1.cell? ⟨w.heap.size, 0, none⟩ = some (.slice A ms.length c) := HX1.out.cell 0
  have hsz := HX1.out.lt
  clear hb1
  go_wp2_with fail
  refine (kC _).mono ?_
  rintro e w2 ⟨rfl, rfl⟩
  clear kI kC
  go_wp2_with fail
  go_loopw [9, 25] (RingLoop ms xs n w w1 (.slice A ms.length c)) (fun _ s25 _ => n - (intOf s25).toNat)
  case atStart =>
    refine ⟨0, rfl, Nat.zero_le _, ?_, ?_, (HX1.out.alloc _).alloc _, ((Below.refl _ _).alloc (Nat.le_refl _) _).alloc (by simp) _⟩
    · have h := World.ownsRow_made (base := w1.heap.size) (e := 34) (size := 1) (w1.alloc (Obj.cells (Array.replicate ms.length (cV (0, 0))) 37)) #[] 0 (by simp) (by simp) rfl
      simpa [ringL] using h
    · have h := (Blk.new w1 37 (Array.replicate ms.length (cV (0, 0)))).alloc (Obj.cells #[] 34)
      simpa [statesAt] using h
  case round =>
    obtain ⟨i, rfl, hi, how, hst, hbx, hbl⟩ := hrel
    obtain ⟨A9, c9, rfl⟩ := own_form how
    have HO := Lib.hid how
    have HS := Lib.hid hst
    have HBX := Lib.hid hbx
    have HBL := Lib.hid hbl
    have hsz3 : w1.heap.size ≤ wr.heap.size := hbl.size
    have HBW := Lib.hid (HB1.out.trans (hbl.mono (Nat.le_of_lt hsz)))
    have HRx := Lib.hid (HR.out.below HBW.out)
    have HXx := Lib.hid ((HX.out.below HBW.out).more (B' := wr.heap.size) (by omega))
    have b1 : wr.cell? ⟨w.heap.size, 0, none⟩ = some (.slice A ms.length c) := hbx.cell 0
    clear how hst hbx hbl b0
    by_cases hlt : i < n
    · have HOKi := Lib.hid (HOK.out i hlt)
      have hwl : w.heap.size < wr.heap.size := by omega
      have HE := Lib.hid (ringL_succ ms xs i)
      go_wp2_with fail
      go_region_law (first
        | (go_simp; go_at_call 26; refine (kE i _ (by exact HXx.out) (by omega) (by omega)).mono ?_; rintro e w4 ⟨rfl, rfl⟩)
        | (go_simp; go_at_call 25; refine (w_step ms (statesAt ms xs i) (xs.getD i 0) A c w1.heap.size ms.length w.heap.size _ (by exact HRx.out) (statesAt_length ms xs i) (by omega) (by exact HS.out) (by omega) HOKi.out.1 HOKi.out.2).mono ?_; rintro e w5 ⟨rfl, hs5, hg5⟩; have HO5 := Lib.hid (own_grown (own_drewN HO.out 1) hg5 (own_blk_ne HO.out HS.out (by decide))); have hz5 : wr.heap.size ≤ w5.heap.size := hg5.size)
        | (refine step_append_any _ rfl (.tmp 28) (.tmp 36) _ rfl w1.heap.size 34 i1 _ 1 4 Try.underlying27 hi1 hf1 hf2 hf3 rfl (by decide) (.slice A9 i c9) i _ (by simp [Act.eval]) (HO5.out.alloc _) _ (some ⟨w5.heap.size, 0, none⟩) 1 1 _ (by simp [Act.eval]) (reads_new w5 _ 1 1 _ (by rfl)) (by intro u hu; simp at hu; subst hu; rfl) (by unfold maxLen; omega) (by omega) (by simp; omega) ?_; intro v4 w4 hown4 hgr4 hat4))
      all_goals
        have HS4 := Lib.hid ((hs5.alloc (Obj.cells #[Value.float .f32 (outOf (stepAll ms (statesAt ms xs i) (xs.getD i 0)))] 34)).grown hgr4 (Ne.symm (own_blk_ne HO5.out hs5 (by decide))))
        have HX5 := HBX.out.drew.grown hg5 (by simp; omega)
        have HX4 := Lib.hid ((HX5.alloc (Obj.cells #[Value.float .f32 (outOf (stepAll ms (statesAt ms xs i) (xs.getD i 0)))] 34)).grown hgr4 (Ne.symm (own_blk_ne HO5.out HX5 (by decide))))
        have HB4 := Lib.hid ((((HBL.out.drew).trans (below_of_grown hg5 (by simp; omega) (by intro x hx; injection hx with hx; omega))).alloc (by omega) (Obj.cells #[Value.float .f32 (outOf (stepAll ms (statesAt ms xs i) (xs.getD i 0)))] 34)).grown hgr4 (by simp; omega) (own_base HO5.out))
        have HO4 := Lib.hid hown4
        clear hown4 hgr4 hat4 hs5 hg5 HX5
        go_wp2_with fail
        go_roundw
        case rel => exact ⟨i + 1, by go_num, by omega, by rw [HE.out, List.map_append]; exact HO4.out, HS4.out, HX4.out, HB4.out⟩
        case measure => simp [intOf]; omega
    · have hin : i = n := by omega
      subst hin
      have HF := Lib.hid (HB1.out.trans (HBL.out.mono (Nat.le_of_lt hsz)))
      go_wp2
      go_ret2
      exact ⟨A9, c9, rfl, own_lower HO.out (Nat.le_of_lt hsz), HF.out⟩

end Go.Proofs.Ytfkbbicacgeiiaa
