/- Draws begun: fresh codes, samples. -/
import Derived.Test.YtfkbbicacgeiiaaG8
namespace Go.Proofs.Ytfkbbicacgeiiaa
open Go.RowKit

attribute [local go_sem] run_store_float run_store_complex alloc_drewN setCell_drewN

theorem info_u8 : (Try.prog.info? 5).map (fun i => (i.zero, i.size, i.bytes)) = some (some (.int .u8 0), 1, 1) := by kernel_rfl

def IsByte (v : Value) : Prop := ∃ u : Int, v = .int .u8 u ∧ 0 ≤ u ∧ u ≤ 255

theorem bytes_of_own {w : World} {base n c : Nat} {e : TypeId} {A : Option Addr} {xs : List Value} (h : w.ownsRow base e 1 (.slice A n c) n xs) (hx : ∀ x ∈ xs, IsByte x) : BytesAt w w.heap.size A n := by
  obtain ⟨hl, h2⟩ := Rd.of_own h
  intro hn
  obtain ⟨b, o, rfl, hb, hc⟩ := h2 hn
  refine ⟨_, rfl, hb, fun j hj => ?_⟩
  have hj' : j < xs.length := by rw [hl]; omega
  obtain ⟨u, hu, h0, h1⟩ := hx _ (List.getElem_mem hj')
  refine ⟨u, h0, h1, ?_⟩
  rw [add_spot, ← hu]
  exact hc j _ (List.getElem?_eq_getElem hj')

def FreshPost (w : World) (e : Ending) (w' : World) : Prop := ∃ A n c, e = .returned (.slice A n c) ∧ BytesAt w' w'.heap.size A n ∧ n ≤ 601 ∧ Below w.heap.size w w'

def FreshLoop (w : World) (n : Nat) (s5 s6 : Value) (wx : World) : Prop :=
  ∃ (i : Nat) (xs : List Value), s6 = .int .i64 i ∧ i ≤ n ∧ i ≤ 600 ∧ xs.length = i + 1 ∧ wx.ownsRow w.heap.size 5 1 s5 (i + 1) xs ∧ (∀ x ∈ xs, IsByte x) ∧ Below w.heap.size w wx

set_option maxRecDepth 10000 in
set_option maxHeartbeats 1000000 in
theorem w_fresh (A : Option Addr) (n c : Nat) (salt : Nat) (w : World) (hb : BytesAt w w.heap.size A n) (hn : n ≤ 1048576) (hs : salt ≤ 100) :
    Calls Try.prog 7 #[.slice A n c, .int .i64 salt] w (FreshPost w) := by
  have HB := Lib.hid hb
  clear hb
  obtain ⟨i0, hi0, hz0, hz1, hz2⟩ := info_parts info_u8
  go_enter Try.func7, Try.ntmps7
  go_wp2_with fail
  go_loopw [5, 6] (FreshLoop w n) (fun _ s6 _ => n - (intOf s6).toNat)
  case atStart => exact ⟨0, _, rfl, Nat.zero_le _, by omega, rfl, World.ownsRow_lit w #[Value.int IntKind.u8 salt] 1 (Nat.le_refl _) (by decide) rfl, by intro x hx; simp at hx; subst hx; exact ⟨_, rfl, by omega, by omega⟩, (Below.refl _ _).alloc (Nat.le_refl _) _⟩
  case round =>
    obtain ⟨i, xs, rfl, hi1, hi2, hxl, how, hxs, hbl⟩ := hrel
    obtain ⟨A5, c5, rfl⟩ := own_form how
    have HOW := Lib.hid how
    have HXS := Lib.hid hxs
    have HBL := Lib.hid hbl
    have HXL := Lib.hid hxl
    have hsz : w.heap.size ≤ wr.heap.size := hbl.size
    have fin : Hid (FreshPost w (.returned (.slice A5 (i + 1) c5)) wr) := Lib.hid ⟨A5, i + 1, c5, rfl, bytes_of_own how hxs, by omega, hbl⟩
    clear how hxs hbl hxl
    by_cases h1 : (i : Int) < n
    · by_cases h2 : (i : Int) < 600
      · obtain ⟨ad, rfl, hb, hcell⟩ := HB.out (by omega)
        obtain ⟨u, hu0, hu1, hu⟩ := hcell i (by omega)
        have hu2 : wr.cell? (ad.add i) = some (.int .u8 u) := (HBL.out.cell (by rw [block_of_add]; exact hb)).trans hu
        clear hcell hu fin
        go_wp2_with (at_builtin; refine wpList_append_any _ rfl (.tmp 20) (.tmp 34) _ rfl w.heap.size 5 i0 _ 1 1 Try.underlying22 hi0 hz0 hz1 hz2 rfl (by decide) _ _ _ rfl (HOW.out.alloc _) _ _ 1 1 _ rfl (reads_new _ _ 1 1 _ rfl) (by intro u hu; simp at hu; subst hu; rfl) (by unfold maxLen; omega) (by omega) (by simp; omega) ?_; intro v4 w4 hown4 hgr4 hat4)
        have HO4 := Lib.hid hown4
        have HB4 := Lib.hid ((HBL.out.alloc hsz _).grown hgr4 (by simp; omega) (own_base HOW.out))
        clear hown4 hgr4 hat4
        go_wp2
        go_roundw
        case rel =>
          refine ⟨i + 1, _, by go_num, by omega, by omega, ?_, HO4.out, ?_, HB4.out⟩
          · have := HO4.out.1; omega
          · intro x hx
            rcases List.mem_append.1 hx with h | h
            · exact HXS.out x h
            · simp at h; subst h; exact ⟨_, rfl, by omega, by omega⟩
        case measure => simp [intOf]; omega
      · have h2' : decide ((i : Int) < 600) = false := decide_eq_false h2
        go_wp2
        go_ret
        exact fin.out
    · have h1' : decide ((i : Int) < n) = false := decide_eq_false h1
      go_wp2
      go_ret
      exact fin.out

/-- samples of memory of their own, of at most 4 -/
def SmallPost (w : World) (e : Ending) (w' : World) : Prop :=
  ∃ (A : Option Addr) (c : Nat) (xs : List Nat), e = .returned (.slice A xs.length c) ∧ w'.ownsRow w.heap.size 34 1 (.slice A xs.length c) xs.length (xs.map flV) ∧ xs.length ≤ 11 ∧ (∀ x ∈ xs, Bd .f32 2 x) ∧ Below w.heap.size w w'

def SmallLoop (w w1 : World) (g : Nat) (s6 s7 : Value) (wx : World) : Prop :=
  ∃ (k : Int) (xs : List Nat), s7 = .int .i64 k ∧ 0 ≤ k ∧ xs.length + k ≤ 11 ∧ wx.ownsRow w1.heap.size 34 1 s6 xs.length (xs.map flV) ∧ (∀ x ∈ xs, Bd .f32 2 x) ∧ CR w1 wx g w.heap.size

theorem two_bd : Bd .f32 1 1073741824 := ⟨by decide, false, 2 ^ 23, -22, by decide, by decide, by decide, .inr ⟨by decide, by decide⟩⟩

theorem small_ok {x : Int} (h1 : -1000 ≤ x) (h2 : x ≤ 1000) : ∃ y z, floatBits .mul .f32 1073741824 (floatOfInt .f32 x) = some y ∧ floatBits .quo .f32 y 1148846080 = some z ∧ Bd .f32 2 z := by
  have hi := int_bd (k := .f32) (A := 10) (n := x) (by show x.natAbs ≤ 2 ^ 10; omega) (by decide) (by decide)
  have hm := mul_ok two_bd hi (by decide) (by decide)
  have hq := quo_ok (A := 11) 9 hm.2 (show FloatKind.f32.format.read 1148846080 = .number false 16384000 (-14) from by decide) ⟨by decide, .inr (by decide)⟩ (by decide) (by decide)
  exact ⟨_, _, hm.1, hq.1, hq.2⟩

set_option maxRecDepth 10000 in
set_option maxHeartbeats 1000000 in
theorem w_makeSmall (A : Option Addr) (n c : Nat) (w : World) (hb : BytesAt w w.heap.size A n) (hn : (n : Int) ≤ 140737488351232) :
    Calls Try.prog 15 #[.slice A n c, .float .f32 1073741824] w (SmallPost w) := by
  have kN := w_new A n c w hb hn
  have kB := fun (W : World) (g B : Nat) (n : Int) (h : Cur W g B) => w_below g B n W h
  clear hb
  obtain ⟨i0, hi0, hz0, hz1, hz2⟩ := info_parts info_f32
  go_enter Try.func15, Try.ntmps15
  go_wp2_with fail
  refine kN.mono ?_
  rintro e w1 ⟨g, rfl, hg, hcur, hb1⟩
  have HC := Lib.hid hcur
  have HB1 := Lib.hid hb1
  have hgl := hcur.lt
  clear hcur hb1 kN
  go_wp2_with fail
  have H1 := Lib.hid ((CR.refl HC.out).alloc (Obj.cells #[] 34))
  refine (kB _ _ _ 12 H1.out.1 (by decide) (by decide)).mono ?_
  rintro e w2 ⟨⟨v, rfl, k, rfl, hk1, hk2⟩, hcr2⟩
  have H2 := Lib.hid (H1.out.trans hcr2)
  have HO2 : Hid (w2.ownsRow w1.heap.size 34 1 (.slice (some ⟨w1.heap.size, 0, none⟩) 0 0) 0 []) := Lib.hid (own_grown (World.ownsRow_made w1 #[] 0 (Nat.le_refl _) (by simp) rfl) hcr2.2 (by simp [Value.ownBlock]; omega))
  clear hcr2 H1
  go_wp2_with fail
  go_loopw [6, 7] (SmallLoop w w1 g) (fun _ s7 _ => (intOf s7).toNat)
  case atStart => exact ⟨k, [], rfl, hk1, by simp; omega, HO2.out, by simp, H2.out⟩
  case round =>
    obtain ⟨k, xs, rfl, hk0, hkl, how, hxs, hcr⟩ := hrel
    obtain ⟨A6, c6, rfl⟩ := own_form how
    have HOW := Lib.hid how
    have HXS := Lib.hid hxs
    have HCR := Lib.hid hcr
    clear how hxs hcr H2 HO2 hk1 hk2
    by_cases hlt : 0 < k
    · go_wp2_with fail
      refine (kB _ _ _ 2001 HCR.out.1 (by decide) (by decide)).mono ?_
      rintro e w3 ⟨⟨v, rfl, x, rfl, hx1, hx2⟩, hcr3⟩
      have HC3 := Lib.hid (HCR.out.trans hcr3)
      have HO3 := Lib.hid (own_grown HOW.out hcr3.2 (fun e => by have := own_base HOW.out _ e; omega))
      have hw3 : w1.heap.size ≤ w3.heap.size := HC3.out.2.size
      obtain ⟨y, z, q1, q2, q3⟩ := small_ok (x := x - 1000) (by omega) (by omega)
      have Q3 := Lib.hid q3
      have hq1 := fun W => run_float_arith (P := Try.prog) W .mul 34 .f32 _ _ _ q1
      have hq2 := fun W => run_float_arith (P := Try.prog) W .quo 34 .f32 _ _ _ q2
      clear hcr3 q1 q2 q3 HCR HOW
      go_wp2_with (at_builtin; refine wpList_append_any _ rfl (.tmp 17) (.tmp 25) _ rfl w1.heap.size 34 i0 _ 1 4 Try.underlying27 hi0 hz0 hz1 hz2 rfl (by decide) _ _ _ rfl (HO3.out.alloc _) _ _ 1 1 _ rfl (reads_new _ _ 1 1 _ rfl) (by intro u hu; simp at hu; subst hu; rfl) (by unfold maxLen; omega) (by omega) (by simp; omega) ?_; intro v4 w4 hown4 hgr4 hat4)
      have HC4 := Lib.hid ((HC3.out.alloc (Obj.cells #[Value.float .f32 z] 34)).grown hgr4 (own_base HO3.out) hgl)
      have HO4 := Lib.hid hown4
      clear hown4 hgr4 hat4 HC3 HO3
      go_wp2
      go_roundw
      case rel =>
        refine ⟨k - 1, xs ++ [z], by go_num, by omega, by simp; omega, ?_, ?_, HC4.out⟩
        · rw [List.length_append, List.map_append]; exact HO4.out
        · intro u hu
          rcases List.mem_append.1 hu with h | h
          · exact HXS.out u h
          · simp at h; subst h; exact Q3.out
      case measure => simp [intOf]; omega
    · have HOF := Lib.hid (own_lower (base' := w.heap.size) HOW.out HB1.out.size)
      have HBF := Lib.hid (HB1.out.trans (below_of_grown HCR.out.2 HB1.out.size (by intro x hx; injection hx with hx; omega)))
      go_wp2
      go_ret
      exact ⟨A6, c6, xs, rfl, HOF.out, by omega, HXS.out, HBF.out⟩

end Go.Proofs.Ytfkbbicacgeiiaa
