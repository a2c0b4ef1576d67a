/- Draws of bodies. -/
import Derived.Test.YtfkbbicacgeiiaaW4
import Derived.Test.YtfkbbicacgeiiaaA2
import Derived.Test.YtfkbbicacgeiiaaW2
namespace Go.Proofs.Ytfkbbicacgeiiaa
open Go.RowKit

attribute [local go_sem] run_store_float run_store_complex alloc_drewN setCell_drewN

theorem info_mode : (Try.prog.info? 39).map (fun i => (i.zero, i.size, i.bytes)) = some (some (.agg #[.complex .f32 0 0, .complex .f32 0 0]), 2, 16) := by kernel_rfl

/-- a body: good modes in memory of its own -/
def BodyPost (most : Nat) (w : World) (g B : Nat) (e : Ending) (w' : World) : Prop :=
  ∃ (A : Option Addr) (c : Nat) (ms : List Md), e = .returned (.agg #[.slice A ms.length c]) ∧ w'.ownsRow w.heap.size 39 2 (.slice A ms.length c) ms.length (mdCells ms) ∧ ms.length ≤ most ∧ (∀ m ∈ ms, GoodMd m) ∧ CR w w' g B

/-- the loop's state: the slice so far -/
def BodyLoop (w : World) (g B rr bb most : Nat) (s6 : Value) (wx : World) : Prop :=
  ∃ (k : Int) (v : Value) (ms : List Md) (u : Value), s6 = .int .i64 k ∧ 0 ≤ k ∧ ms.length + k ≤ most ∧ Blk wx bb 25 #[v] ∧ Blk wx rr 25 #[u] ∧ wx.ownsRow w.heap.size 39 2 v ms.length (mdCells ms) ∧ (∀ m ∈ ms, GoodMd m) ∧ CR w wx g B

theorem mdCells_snoc (ms : List Md) (m : Md) : mdCells (ms ++ [m]) = mdCells ms ++ [.complex .f32 m.pole.1 m.pole.2, .complex .f32 m.gain.1 m.gain.2] := by simp [mdCells]

set_option maxRecDepth 10000 in
set_option maxHeartbeats 2000000 in
theorem w_l2Body (g B most : Nat) (w : World) (hc : Cur w g B) (hm : most ≤ 16) :
    Calls Try.prog 20 #[.pointer (some ⟨g, 0, none⟩), .int .i64 most] w (BodyPost most w g B) := by
  have kM := fun (W : World) (h : Cur W g B) => w_l2Mode g B W h
  have kI := fun (p q s t : Nat) (W : World) => w_sIsMode p q s t W
  have kB := fun (W : World) (n : Int) (h : Cur W g B) => w_below g B n W h
  have hgl := hc.lt
  obtain ⟨i0, hi0, hz0, hz1, hz2⟩ := info_parts info_mode
  go_enter Try.func20, Try.ntmps20
  go_wp2_with fail
  have H0 := Lib.hid (((CR.refl hc).alloc (Obj.cells #[Value.slice none 0 0] 25)).alloc (Obj.cells #[Value.slice none 0 0] 25))
  refine (kB _ _ H0.out.1 (by omega) (by omega)).mono ?_
  rintro e w1 ⟨⟨v, rfl, n, rfl, hn1, hn2⟩, hr1⟩
  have H1 := Lib.hid (H0.out.trans hr1)
  have HR1 : Hid (Blk w1 w.heap.size 25 #[Value.slice none 0 0]) := Lib.hid (((Blk.new w _ _).alloc _).grown hr1.2 (by simp; omega))
  have HB1 : Hid (Blk w1 (w.heap.size + 1) 25 #[Value.slice none 0 0]) := Lib.hid (by
    have h := Blk.new (w.alloc (Obj.cells #[Value.slice none 0 0] 25)) 25 #[Value.slice none 0 0]
    simp only [World.size_alloc] at h
    exact h.grown hr1.2 (by simp; omega))
  clear hr1 H0 hc
  go_wp2_with fail
  go_loopw [6] (BodyLoop w g B w.heap.size (w.heap.size + 1) most) (fun s6 _ => (intOf s6).toNat)
  case atStart => exact ⟨n, _, [], _, rfl, hn1, by simp; omega, HB1.out, HR1.out, World.ownsRow_nil _ _ _ _, by simp, H1.out⟩
  case round =>
    obtain ⟨k, v, ms, u, rfl, hk0, hk1, hbb, hrr, hown, hgood, hcr⟩ := hrel
    obtain ⟨A, c, rfl⟩ := own_form hown
    have HBB := Lib.hid hbb
    have HRR := Lib.hid hrr
    have HOWN := Lib.hid hown
    have HGOOD := Lib.hid hgood
    have HCR := Lib.hid hcr
    clear hbb hrr hown hgood hcr H1 HR1 HB1 hn1 hn2
    by_cases hlt : 0 < k
    · go_wp2_with fail
      refine (kM _ HCR.out.1).mono ?_
      rintro e w2 ⟨⟨v, rfl, p, q, s, t, rfl, hpq, hst⟩, hr2⟩
      have H2 := Lib.hid (HCR.out.trans hr2)
      have HBB2 := Lib.hid (HBB.out.grown hr2.2 (by simp; omega))
      have HRR2 := Lib.hid (HRR.out.grown hr2.2 (by simp; omega))
      have HOWN2 := Lib.hid (own_grown HOWN.out hr2.2 (fun e => by have := own_base HOWN.out _ e; omega))
      clear hr2 HBB HRR HOWN HCR
      go_wp2_with fail
      refine (kI _ _ _ _ _ hpq hst).mono ?_
      rintro e w3 ⟨r, rfl, hb3, hgd⟩
      have H3 := Lib.hid ((H2.out.alloc _).below hb3)
      have HBB3 := Lib.hid ((HBB2.out.alloc _).below hb3 (by simp; have := HBB2.out.lt; omega))
      have HRR3 := Lib.hid ((HRR2.out.alloc _).below hb3 (by simp; have := HRR2.out.lt; omega))
      have HOWN3 := Lib.hid (own_below (HOWN2.out.alloc _) hb3)
      have HM3 := Lib.hid ((Blk.new w2 39 _).below hb3 (by simp))
      have HGD := Lib.hid hgd
      have hsz : w2.heap.size < w3.heap.size := by have := HM3.out.lt; omega
      have hsz2 : w.heap.size + 2 ≤ w3.heap.size := by have := HBB3.out.lt; omega
      clear hb3 hgd H2 HBB2 HRR2 HOWN2
      cases r
      case false =>
        go_wp2
        go_roundw
        case rel => exact ⟨k - 1, _, ms, _, by go_num, by omega, by omega, HBB3.out, HRR3.out, HOWN3.out, HGOOD.out, H3.out⟩
        case measure => simp [intOf]; omega
      case true =>
        have b0 : w3.cell? ⟨w.heap.size + 1, 0, none⟩ = some (.slice A ms.length c) := HBB3.out.cell 0
        have m0 : w3.cell? ⟨w2.heap.size, 0, none⟩ = some (.complex .f32 p q) := HM3.out.cell 0
        have m1 : w3.cell? ⟨w2.heap.size, 1, none⟩ = some (.complex .f32 s t) := HM3.out.cell 1
        have HRN := Lib.hid (reads_new w3 39 2 1 #[Value.complex FloatKind.f32 p q, Value.complex FloatKind.f32 s t] rfl)
        go_wp2_with (at_builtin; refine wpList_append_any _ rfl (.tmp 22) (.tmp 24) _ rfl w.heap.size 39 i0 _ 2 16 Try.underlying23 hi0 hz0 hz1 hz2 rfl (by decide) _ _ _ rfl (HOWN3.out.alloc _) _ _ 1 1 _ rfl HRN.out (by intro u hu; simp at hu; rcases hu with rfl | rfl <;> rfl) (by unfold maxLen; omega) (by omega) (by simp; omega) ?_; intro v4 w4 hown4 hgr4 hat4; obtain ⟨A4, c4, rfl⟩ := own_form hown4; have HB4 := Lib.hid ((HBB3.out.alloc _).grown hgr4 (Ne.symm (own_blk_ne HOWN3.out HBB3.out (by decide)))); have f4 : w4.cell? ⟨w.heap.size + 1, 0, none⟩ = some (.slice A ms.length c) := HB4.out.cell 0; have f5 := HB4.out.frozen 0)
        have hob := own_base HOWN3.out
        have HR4 := Lib.hid ((HRR3.out.alloc (Obj.cells #[Value.complex FloatKind.f32 p q, Value.complex FloatKind.f32 s t] 39)).grown hgr4 (Ne.symm (own_blk_ne HOWN3.out HRR3.out (by decide))))
        have HC4 := Lib.hid ((H3.out.alloc (Obj.cells #[Value.complex FloatKind.f32 p q, Value.complex FloatKind.f32 s t] 39)).grown hgr4 hob hgl)
        have HO4 : Hid (w4.ownsRow w.heap.size 39 2 (Value.slice A4 (ms.length + 1) c4) (ms.length + 1) (mdCells ms ++ [.complex .f32 p q, .complex .f32 s t])) := Lib.hid hown4
        clear hown4 hgr4 hob hat4
        go_wp2
        go_roundw
        case rel =>
          refine ⟨k - 1, .slice A4 (ms.length + 1) c4, ms ++ [⟨(p, q), (s, t)⟩], _, by go_num, by omega, by simp; omega, HB4.out.set_ 0 _, HR4.out.far (by simp) _, ?_, ?_, HC4.out.set hgl (by simp) _⟩
          · rw [mdCells_snoc, List.length_append]
            exact own_set HO4.out (own_blk_ne HO4.out HB4.out (by decide)) _
          · intro m hm'
            rcases List.mem_append.1 hm' with h | h
            · exact HGOOD.out m h
            · simp at h; subst h; exact HGD.out (by first | trivial | rfl)
        case measure => simp [intOf]; omega
    · have hk : k = 0 := by omega
      subst hk
      have b0 : wr.cell? ⟨w.heap.size + 1, 0, none⟩ = some (.slice A ms.length c) := HBB.out.cell 0
      have r0 : wr.cell? ⟨w.heap.size, 0, none⟩ = some u := HRR.out.cell 0
      have r1 := HRR.out.frozen 0
      have HF := Lib.hid (own_set HOWN.out (p := ⟨w.heap.size, 0, none⟩) (own_blk_ne HOWN.out HRR.out (by decide)) (.slice A ms.length c))
      go_wp2
      refine bodyPost_ret (v := .agg #[.slice A ms.length c]) (by simp [results, Try.results20, go_sem, r0]) rfl ?_
      exact ⟨A, c, ms, rfl, HF.out, by omega, HGOOD.out, HCR.out.set hgl (by simp) _⟩

end Go.Proofs.Ytfkbbicacgeiiaa
