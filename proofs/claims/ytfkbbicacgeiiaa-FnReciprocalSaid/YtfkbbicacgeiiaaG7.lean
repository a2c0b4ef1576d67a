/- Draws of rooms. -/
import Derived.Test.YtfkbbicacgeiiaaG6
namespace Go.Proofs.Ytfkbbicacgeiiaa
open Go.RowKit

attribute [local go_sem] run_store_float run_store_complex alloc_drewN setCell_drewN

/-- a row of weights: its address, its capacity, its words -/
structure RowD where
  A : Option Addr
  c : Nat
  ws : List Nat

def rowV (r : RowD) : Value := .slice r.A r.ws.length r.c
def flV (x : Nat) : Value := .float .f32 x

def OwnRows (w : World) (base : Nat) (rows : List RowD) : Prop := ∀ r ∈ rows, w.ownsRow base 34 1 (rowV r) r.ws.length (r.ws.map flV)

/-- weights are at most 1 -/
def GoodRows (n : Nat) (rows : List RowD) : Prop := ∀ r ∈ rows, r.ws.length = n ∧ ∀ x ∈ r.ws, Bd .f32 0 x

section
variable {w w' : World} {base : Nat} {rows : List RowD}
theorem OwnRows.cur (h : OwnRows w base rows) {g : Nat} (hg : w.grownBy w' (some g)) (hlt : g < base) : OwnRows w' base rows :=
  fun r hr => own_grown (h r hr) hg (fun e => by have := own_base (h r hr) g e; omega)
theorem OwnRows.below (h : OwnRows w base rows) (hb : Below w.heap.size w w') : OwnRows w' base rows := fun r hr => own_below (h r hr) hb
theorem OwnRows.alloc (h : OwnRows w base rows) (o : Obj) : OwnRows (w.alloc o) base rows := fun r hr => (h r hr).alloc o
theorem OwnRows.drewN (h : OwnRows w base rows) (n : Nat) : OwnRows (w.drewN n) base rows := h
theorem OwnRows.other (h : OwnRows w base rows) {base' size' n' : Nat} {e' : TypeId} {v' : Value} {xs' : List Value} (h' : w.ownsRow base' e' size' v' n' xs') (hne : 34 ≠ e') (hg : w.grownBy w' v'.ownBlock) : OwnRows w' base rows :=
  fun r hr => (h r hr).kept hg (own_ne (h r hr) h' hne)
theorem OwnRows.set (h : OwnRows w base rows) {b : Nat} {t : TypeId} {cs : Array Value} (hb : Blk w b t cs) (hne : 34 ≠ t) (j : Nat) (u : Value) : OwnRows (w.setCell ⟨b, j, none⟩ u) base rows :=
  fun r hr => own_set (h r hr) (own_blk_ne (h r hr) hb hne) u
theorem OwnRows.snoc (h : OwnRows w base rows) {r : RowD} (hr : w.ownsRow base 34 1 (rowV r) r.ws.length (r.ws.map flV)) : OwnRows w base (rows ++ [r]) := fun x hx => by
  rcases List.mem_append.1 hx with h1 | h1
  · exact h x h1
  · simp at h1; subst h1; exact hr
end

theorem info_f32 : (Try.prog.info? 34).map (fun i => (i.zero, i.size, i.bytes)) = some (some (.float .f32 0), 1, 4) := by kernel_rfl
theorem info_row : (Try.prog.info? 27).map (fun i => (i.zero, i.size, i.bytes)) = some (some (.slice none 0 0), 1, 24) := by kernel_rfl

/-- what a room's value holds: modes and rows of memory of its own -/
def RoomPost (most : Nat) (w : World) (g B : Nat) (e : Ending) (w' : World) : Prop :=
  ∃ (A : Option Addr) (c : Nat) (ms : List Md) (S : Option Addr) (d : Nat) (rows : List RowD), e = .returned (.agg #[.slice A ms.length c, .slice S rows.length d]) ∧
    w'.ownsRow w.heap.size 39 2 (.slice A ms.length c) ms.length (mdCells ms) ∧ w'.ownsRow w.heap.size 27 1 (.slice S rows.length d) rows.length (rows.map rowV) ∧ OwnRows w' w.heap.size rows ∧
    ms.length ≤ most ∧ rows.length ≤ 4 ∧ (∀ m ∈ ms, GoodMd m) ∧ GoodRows ms.length rows ∧ CR w w' g B

def RoomLoop (w : World) (g B rr rb : Nat) (A : Option Addr) (c : Nat) (ms : List Md) (s6 : Value) (wx : World) : Prop :=
  ∃ (k : Int) (v : Value) (rows : List RowD) (u0 u1 : Value), s6 = .int .i64 k ∧ 0 ≤ k ∧ rows.length + k ≤ 4 ∧ Blk wx rb 47 #[.slice A ms.length c, v] ∧ Blk wx rr 47 #[u0, u1] ∧
    wx.ownsRow w.heap.size 39 2 (.slice A ms.length c) ms.length (mdCells ms) ∧ wx.ownsRow w.heap.size 27 1 v rows.length (rows.map rowV) ∧ OwnRows wx w.heap.size rows ∧ GoodRows ms.length rows ∧ CR w wx g B

def RowLoop (w0 : World) (g B n : Nat) (s7 s23 : Value) (wx : World) : Prop :=
  ∃ ws : List Nat, s23 = .int .i64 ws.length ∧ ws.length ≤ n ∧ wx.ownsRow w0.heap.size 34 1 s7 ws.length (ws.map flV) ∧ (∀ x ∈ ws, Bd .f32 0 x) ∧ CR w0 wx g B

theorem quo32 {x : Int} (h1 : -32 ≤ x) (h2 : x ≤ 32) : floatBits .quo .f32 (floatOfInt .f32 x) 1107296256 = some (fb .quo .f32 (floatOfInt .f32 x) 1107296256) ∧ Bd .f32 0 (fb .quo .f32 (floatOfInt .f32 x) 1107296256) := by
  have h := quo_ok (A := 5) 5 (int_bd (k := .f32) (n := x) (by show x.natAbs ≤ 2 ^ 5; omega) (by decide) (by decide)) (show FloatKind.f32.format.read 1107296256 = .number false (2 ^ 23) (-18) from by decide) ⟨by decide, .inr (by decide)⟩ (by decide) (by decide)
  exact ⟨h.1, h.2.mono (by decide)⟩

set_option maxRecDepth 10000 in
set_option maxHeartbeats 4000000 in
theorem w_l4Room (g B most : Nat) (w : World) (hc : Cur w g B) (hm : most ≤ 16) :
    Calls Try.prog 33 #[.pointer (some ⟨g, 0, none⟩), .int .i64 most] w (RoomPost most w g B) := by
  have kL := fun (W : World) (h : Cur W g B) => w_l2Body g B most W h hm
  have kB := fun (W : World) (n : Int) (h : Cur W g B) => w_below g B n W h
  have hgl := hc.lt
  have hfld : ∀ (W : World) (x : Value), (Instr.field 25 (.agg #[x]) 0).run Try.prog W = .ok x W := fun _ _ => by kernel_rfl
  obtain ⟨i1, hi1, hf1, hf2, hf3⟩ := info_parts info_f32
  obtain ⟨i2, hi2, hr1, hr2, hr3⟩ := info_parts info_row
  go_enter Try.func33, Try.ntmps33
  go_wp2_with fail
  have H0 := Lib.hid ((CR.refl hc).alloc (Obj.cells #[Value.slice none 0 0, Value.slice none 0 0] 47))
  refine (kL _ H0.out.1).mono ?_
  rintro e w1 ⟨A, c, ms, rfl, hown1, hlen, hgd, hcr1⟩
  have H1 := Lib.hid (H0.out.trans hcr1)
  have HR1 := Lib.hid ((Blk.new w 47 #[Value.slice none 0 0, Value.slice none 0 0]).grown hcr1.2 (by simp; omega))
  have HO1 := Lib.hid (own_lower (base' := w.heap.size) hown1 (by simp))
  have HGD := Lib.hid hgd
  have hsz1 : w.heap.size < w1.heap.size := HR1.out.lt
  clear hcr1 H0 hown1 hgd hc
  go_wp2_with fail
  have H1' := Lib.hid (H1.out.alloc (Obj.cells #[Value.slice A ms.length c, Value.slice none 0 0] 47))
  refine (kB _ 5 H1'.out.1 (by omega) (by omega)).mono ?_
  rintro e w2 ⟨⟨v, rfl, n, rfl, hn1, hn2⟩, hcr2⟩
  have H2 := Lib.hid (H1'.out.trans hcr2)
  have HR2 := Lib.hid ((HR1.out.alloc _).grown hcr2.2 (by simp; omega))
  have HB2 : Hid (Blk w2 w1.heap.size 47 #[Value.slice A ms.length c, Value.slice none 0 0]) := Lib.hid ((Blk.new w1 _ _).grown hcr2.2 (by simp; omega))
  have HO2 := Lib.hid (own_grown (HO1.out.alloc _) hcr2.2 (fun e => by have := own_base HO1.out _ e; omega))
  clear hcr2 H1' H1 HR1 HO1
  go_wp2_with fail
  go_loopw [6] (RoomLoop w g B w.heap.size w1.heap.size A c ms) (fun s6 _ => (intOf s6).toNat)
  case atStart => exact ⟨n, _, [], _, _, rfl, hn1, by simp; omega, HB2.out, HR2.out, HO2.out, World.ownsRow_nil _ _ _ _, fun r hr => by simp at hr, fun r hr => by simp at hr, H2.out⟩
  case round =>
    obtain ⟨k, v, rows, u0, u1, rfl, hk0, hk1, hbb, hrr, hom, hos, hor, hgr, hcr⟩ := hrel
    obtain ⟨S, d, rfl⟩ := own_form hos
    have HBB := Lib.hid hbb
    have HRR := Lib.hid hrr
    have HOM := Lib.hid hom
    have HOS := Lib.hid hos
    have HOR := Lib.hid hor
    have HGR := Lib.hid hgr
    have HCR := Lib.hid hcr
    clear hbb hrr hom hos hor hgr hcr H2 HR2 HB2 HO2 hn1 hn2
    have b0 : wr.cell? ⟨w1.heap.size, 0, none⟩ = some (.slice A ms.length c) := HBB.out.cell 0
    by_cases hlt : 0 < k
    · have hbl := HBB.out.lt
      go_wp2_with fail
      obtain ⟨w0, hw0⟩ : ∃ w0 : World, w0 = wr := ⟨_, rfl⟩
      have HW0 := Lib.hid hw0
      go_loopw [7, 23] (RowLoop w0 g B ms.length) (fun _ s23 _ => ms.length - (intOf s23).toNat)
      case atStart => exact ⟨[], rfl, Nat.zero_le _, by rw [hw0]; exact World.ownsRow_made wr #[] 0 (Nat.le_refl _) (by simp) rfl, by simp, by rw [hw0]; exact (CR.refl HCR.out.1).alloc _⟩
      case round =>
        obtain ⟨ws, rfl, hwl, how, hws, hcw⟩ := hrel
        obtain ⟨A7, c7, rfl⟩ := own_form how
        have HOW := Lib.hid how
        have HWS := Lib.hid hws
        have HCW := Lib.hid hcw
        clear how hws hcw hw0
        by_cases hj : ws.length < ms.length
        · go_wp2_with fail
          refine (kB _ 65 HCW.out.1 (by omega) (by omega)).mono ?_
          rintro e w3 ⟨⟨v, rfl, x, rfl, hx1, hx2⟩, hcr3⟩
          have HC3 := Lib.hid (HCW.out.trans hcr3)
          have HO3 := Lib.hid (own_grown HOW.out hcr3.2 (fun e => by have := own_base HOW.out _ e; have h1 := HW0.out; subst h1; omega))
          obtain ⟨q1, q2⟩ := quo32 (x := x - 32) (by omega) (by omega)
          have Q2 := Lib.hid q2
          have hq := fun W => run_float_arith (P := Try.prog) W .quo 34 .f32 _ _ _ q1
          have hw3 : w0.heap.size ≤ w3.heap.size := HC3.out.2.size
          generalize fb .quo .f32 (floatOfInt .f32 (x - 32)) 1107296256 = y at *
          have HRN := Lib.hid (reads_new w3 34 1 1 #[Value.float .f32 y] rfl)
          clear hcr3 q1 q2 HCW HOW
          go_wp2_with (at_builtin; refine wpList_append_any _ rfl (.tmp 25) (.tmp 31) _ rfl w0.heap.size 34 i1 _ 1 4 Try.underlying27 hi1 hf1 hf2 hf3 rfl (by decide) _ _ _ rfl (HO3.out.alloc _) _ _ 1 1 _ rfl HRN.out (by intro u hu; simp at hu; subst hu; rfl) (by unfold maxLen; omega) (by omega) (by simp; omega) ?_; intro v4 w4 hown4 hgr4 hat4)
          have HC4 := Lib.hid ((HC3.out.alloc (Obj.cells #[Value.float .f32 y] 34)).grown hgr4 (own_base HO3.out) (by have := HCR.out.1.lt; have h1 := HW0.out; subst h1; exact this))
          have HO4 := Lib.hid hown4
          clear hown4 hgr4 hat4 HC3 HO3
          go_wp2
          go_roundw
          case rel =>
            refine ⟨ws ++ [y], by simp, by simp; omega, ?_, ?_, HC4.out⟩
            · rw [List.length_append, List.map_append]; exact HO4.out
            · intro z hz
              rcases List.mem_append.1 hz with h | h
              · exact HWS.out z h
              · simp at h; subst h; exact Q2.out
          case measure => simp [intOf]; omega
        · have hjj : ws.length = ms.length := by omega
          have HJ := Lib.hid hjj
          have h0 := HW0.out
          subst h0
          have HBB2 := Lib.hid (HBB.out.grown HCW.out.2 (by simp; omega))
          have HRR2 := Lib.hid (HRR.out.grown HCW.out.2 (by simp; omega))
          have HOM2 := Lib.hid (own_grown HOM.out HCW.out.2 (fun e => by have := own_base HOM.out _ e; omega))
          have HOS2 := Lib.hid (own_grown HOS.out HCW.out.2 (fun e => by have := own_base HOS.out _ e; omega))
          have HOR2 := Lib.hid (HOR.out.cur HCW.out.2 hgl)
          have HC2 := Lib.hid (HCR.out.trans HCW.out)
          have HW2 := Lib.hid (own_lower (base' := w.heap.size) HOW.out HCR.out.2.size)
          have b1 : wr.cell? ⟨w1.heap.size, 1, none⟩ = some (.slice S rows.length d) := HBB2.out.cell 1
          have hbl2 : w1.heap.size < wr.heap.size := HBB2.out.lt
          have HRN := Lib.hid (reads_new wr 27 1 1 #[Value.slice A7 ms.length c7] rfl)
          go_wp2_with (at_builtin; refine wpList_append_any _ rfl (.tmp 35) (.tmp 37) _ rfl w.heap.size 27 i2 _ 1 24 Try.underlying45 hi2 hr1 hr2 hr3 rfl (by decide) _ _ _ rfl (HOS2.out.alloc _) _ _ 1 1 _ rfl HRN.out (by intro u hu; simp at hu; subst hu; rfl) (by unfold maxLen; omega) (by omega) (by simp; omega) ?_; intro v4 w4 hown4 hgr4 hat4; obtain ⟨A4, c4, rfl⟩ := own_form hown4; have HB4 := Lib.hid ((HBB2.out.alloc _).grown hgr4 (Ne.symm (own_blk_ne HOS2.out HBB2.out (by decide)))); have f4 : w4.cell? ⟨w1.heap.size, 1, none⟩ = some (.slice S rows.length d) := HB4.out.cell 1; have f5 := HB4.out.frozen 1)
          have HR4 := Lib.hid ((HRR2.out.alloc (Obj.cells #[Value.slice A7 ms.length c7] 27)).grown hgr4 (Ne.symm (own_blk_ne HOS2.out HRR2.out (by decide))))
          have HC4 := Lib.hid ((HC2.out.alloc (Obj.cells #[Value.slice A7 ms.length c7] 27)).grown hgr4 (own_base HOS2.out) hgl)
          have HM4 := Lib.hid ((HOM2.out.alloc (Obj.cells #[Value.slice A7 ms.length c7] 27)).kept hgr4 (own_ne HOM2.out HOS2.out (by decide)))
          have HOR4 := Lib.hid (((HOR2.out.snoc (r := ⟨A7, c7, ws⟩) HW2.out).alloc (Obj.cells #[Value.slice A7 ms.length c7] 27)).other (HOS2.out.alloc (Obj.cells #[Value.slice A7 ms.length c7] 27)) (by decide) hgr4)
          rw [← HJ.out] at hown4
          have HO4 := Lib.hid hown4
          clear hown4 hgr4 hat4
          go_wp2
          go_roundw
          case rel =>
            refine ⟨k - 1, .slice A4 (rows.length + 1) c4, rows ++ [⟨A7, c7, ws⟩], _, _, by go_num, by omega, by simp; omega, HB4.out.set_ 1 _, HR4.out.far (by simp; omega) _, ?_, ?_, ?_, ?_, HC4.out.set hgl (by simp; omega) _⟩
            · exact own_set HM4.out (own_blk_ne HM4.out HB4.out (by decide)) _
            · rw [List.map_append, List.length_append]
              exact own_set HO4.out (own_blk_ne HO4.out HB4.out (by decide)) _
            · exact HOR4.out.set HB4.out (by decide) _ _
            · intro r hr
              rcases List.mem_append.1 hr with h | h
              · exact HGR.out r h
              · simp at h; subst h; exact ⟨HJ.out, HWS.out⟩
          case measure => simp [intOf]; omega
    · have hk : k = 0 := by omega
      subst hk
      have b1 : wr.cell? ⟨w1.heap.size, 1, none⟩ = some (.slice S rows.length d) := HBB.out.cell 1
      have r0 : wr.cell? ⟨w.heap.size, 0, none⟩ = some u0 := HRR.out.cell 0
      have r1 : wr.cell? ⟨w.heap.size, 1, none⟩ = some u1 := HRR.out.cell 1
      have r2 := HRR.out.frozen 0
      have r3 := HRR.out.frozen 1
      have HBR := Lib.hid (HRR.out.set_ 0 (.slice A ms.length c))
      have HF := Lib.hid (own_set (own_set HOM.out (p := ⟨w.heap.size, 0, none⟩) (own_blk_ne HOM.out HRR.out (by decide)) (.slice A ms.length c)) (p := ⟨w.heap.size, 1, none⟩) (own_blk_ne HOM.out HRR.out (by decide)) (.slice S rows.length d))
      have HF2 := Lib.hid (own_set (own_set HOS.out (p := ⟨w.heap.size, 0, none⟩) (own_blk_ne HOS.out HRR.out (by decide)) (.slice A ms.length c)) (p := ⟨w.heap.size, 1, none⟩) (own_blk_ne HOS.out HRR.out (by decide)) (.slice S rows.length d))
      go_wp2
      refine bodyPost_ret (v := .agg #[.slice A ms.length c, .slice S rows.length d]) (by simp [results, Try.results33, go_sem, r0, r1]) rfl ?_
      exact ⟨A, c, ms, S, d, rows, rfl, HF.out, HF2.out, (HOR.out.set HRR.out (by decide) _ _).set HBR.out (by decide) _ _, hlen, by omega, HGD.out, HGR.out, (HCR.out.set hgl (by simp) _).set hgl (by simp) _⟩

end Go.Proofs.Ytfkbbicacgeiiaa
