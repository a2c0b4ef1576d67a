/- Walks: slices.Grow from nothing, slices.Concat of two. -/
import Derived.Test.YtfkbbicacgeiiaaW14
import Derived.Test.YtfkbbicacgeiiaaA3
namespace Go.Proofs.Ytfkbbicacgeiiaa
open Go.RowKit

attribute [local go_sem] run_store_float run_store_complex alloc_drewN setCell_drewN

def sumTo (n m : Nat) : Nat → Nat
  | 0 => 0
  | 1 => n
  | _ => n + m
def catTo (xs ys : List Value) : Nat → List Value
  | 0 => []
  | 1 => xs
  | _ => xs ++ ys

def GrowPost (e : TypeId) (size : Nat) (w : World) (en : Ending) (w' : World) : Prop :=
  ∃ A c, en = .returned (.slice A 0 c) ∧ w'.ownsRow w.heap.size e size (.slice A 0 c) 0 [] ∧ Below w.heap.size w w'
def CatPost (e : TypeId) (size k : Nat) (xs : List Value) (w : World) (en : Ending) (w' : World) : Prop :=
  ∃ A c, en = .returned (.slice A k c) ∧ w'.ownsRow w.heap.size e size (.slice A k c) k xs ∧ Below w.heap.size w w'
def CatLoop (e : TypeId) (size n m : Nat) (xs ys : List Value) (w : World) (s6 s27 : Value) (wx : World) : Prop :=
  ∃ i : Nat, s27 = .int .i64 i ∧ i ≤ 2 ∧ wx.ownsRow w.heap.size e size s6 (sumTo n m i) (catTo xs ys i) ∧ Below w.heap.size w wx

theorem below_drew {B : Nat} {a w : World} (h : Below B a w) : Below B a w.drew := ⟨h.os, h.tape, h.output, h.size, h.block⟩

set_option maxRecDepth 10000 in
set_option maxHeartbeats 1000000 in
theorem w_growM (n : Nat) (w : World) (hn : n ≤ 100000) :
    Calls Try.prog 61 #[.slice none 0 0, .int .i64 n] w (GrowPost 39 2 w) := by
  obtain ⟨i0, hi0, hz0, hz1, hz2⟩ := info_parts info_mode
  by_cases h0 : 0 < n
  · have hz := run_append_zeros (P := Try.prog) w 23 3 23 39 i0 _ Try.underlying23 Try.underlying3 hi0 hz0 n (by rw [hz1]; omega) h0 (by omega) (by rw [hz2]; omega)
    have HC := Lib.hid (grownCap_ge w n 0 39)
    have HM := Lib.hid (grownCap_le_maxLen w n 0 39 (by unfold maxLen; omega))
    generalize grownCap w n 0 39 = C at *
    have HS : Hid ((Builtin.zeroCells (Value.agg #[.complex .f32 0 0, .complex .f32 0 0]).cells n ++ Builtin.zeroCells (Value.agg #[.complex .f32 0 0, .complex .f32 0 0]).cells (C - n)).size = C * 2) := Lib.hid (by
      rw [Array.size_append, size_zeroCells', size_zeroCells', ← Nat.add_mul, Nat.add_sub_cancel' HC.out]; rfl)
    generalize Builtin.zeroCells (Value.agg #[.complex .f32 0 0, .complex .f32 0 0]).cells n ++ Builtin.zeroCells (Value.agg #[.complex .f32 0 0, .complex .f32 0 0]).cells (C - n) = Z at *
    have hC : n ≤ C := HC.out
    go_enter Try.func61, Try.ntmps61
    go_wp2_with (at_builtin; refine wpList_append_run rfl (.tmp 20) (.tmp 21) _ _ rfl _ _ _ _ rfl rfl hz ?_)
    go_ret
    exact ⟨_, _, rfl, World.ownsRow_made w.drew Z C (Nat.le_refl _) HM.out HS.out, (below_drew (Below.refl _ _)).alloc (Nat.le_refl _) _⟩
  · have e0 : n = 0 := by omega
    subst e0
    show Calls Try.prog 61 #[.slice none 0 0, .int .i64 0] w (GrowPost 39 2 w)
    go_enter Try.func61, Try.ntmps61
    go_wp2
    go_ret
    exact ⟨_, _, rfl, World.ownsRow_nil _ _ _ _, Below.refl _ _⟩

set_option maxRecDepth 10000 in
set_option maxHeartbeats 2000000 in
theorem w_concatM (xs ys : List Value) (n m : Nat) (A1 A2 : Option Addr) (c1 c2 g c : Nat) (w : World) (hg : Blk w g 23 #[.slice A1 n c1, .slice A2 m c2])
    (hx : Rd w w.heap.size 2 A1 n xs) (hy : Rd w w.heap.size 2 A2 m ys) (h1 : ∀ u ∈ xs, u.oneCell' = true) (h2 : ∀ u ∈ ys, u.oneCell' = true) (hn : n ≤ 10000) (hm : m ≤ 10000) :
    Calls Try.prog 41 #[.slice (some ⟨g, 0, none⟩) 2 c] w (CatPost 39 2 (n + m) (xs ++ ys) w) := by
  have k := fun (W : World) => w_growM (n + m) W (by omega)
  obtain ⟨i0, hi0, hz0, hz1, hz2⟩ := info_parts info_mode
  have HG := Lib.hid hg
  have HX := Lib.hid hx
  have HY := Lib.hid hy
  have g0 : w.cell? ⟨g, 0, none⟩ = some (.slice A1 n c1) := hg.cell 0
  have g1 : w.cell? ⟨g, 1, none⟩ = some (.slice A2 m c2) := hg.cell 1
  have hgl := hg.lt
  clear hg hx hy
  go_enter Try.func41, Try.ntmps41
  go_wp2_with fail
  go_loopw [3, 11] (fun s3 s11 wx => (∃ i : Nat, s11 = .int .i64 i ∧ i ≤ 2 ∧ s3 = .int .i64 (sumTo n m i)) ∧ w = wx) (fun _ s11 _ => 2 - (intOf s11).toNat)
  case atStart => exact ⟨⟨0, rfl, by decide, rfl⟩, rfl⟩
  case round =>
    obtain ⟨⟨i, rfl, hi, rfl⟩, rfl⟩ := hrel
    rcases (by omega : i = 0 ∨ i = 1 ∨ i = 2) with rfl | rfl | rfl
    · simp only [sumTo]
      clear k
      go_wp2
      go_roundw
      case rel => exact ⟨⟨1, by go_num, by decide, by simp⟩, trivial⟩
      case measure => simp [intOf]
    · simp only [sumTo]
      clear k
      go_wp2
      go_roundw
      case rel => exact ⟨⟨2, by go_num, by decide, by simp⟩, trivial⟩
      case measure => simp [intOf]
    · simp only [sumTo]
      go_wp2_with fail
      refine (k _).mono ?_
      rintro e w1 ⟨A, cc, rfl, ho, hb⟩
      have HO := Lib.hid ho
      have HB := Lib.hid hb
      clear ho hb k g0 g1
      go_wp2_with fail
      go_loopw [6, 27] (CatLoop 39 2 n m xs ys w) (fun _ s27 _ => 2 - (intOf s27).toNat)
      case atStart => exact ⟨0, rfl, by decide, HO.out, HB.out⟩
      case round =>
        obtain ⟨i, rfl, hi, how, hbl⟩ := hrel
        obtain ⟨A5, c5, rfl⟩ := own_form how
        have HO5 := Lib.hid how
        have HB5 := Lib.hid hbl
        have hsz : w.heap.size ≤ wr.heap.size := hbl.size
        have HGR := HG.out.below hbl hgl
        have g0 : wr.cell? ⟨g, 0, none⟩ = some (.slice A1 n c1) := HGR.cell 0
        have g1 : wr.cell? ⟨g, 1, none⟩ = some (.slice A2 m c2) := HGR.cell 1
        clear how hbl HGR
        rcases (by omega : i = 0 ∨ i = 1 ∨ i = 2) with rfl | rfl | rfl
        · simp only [sumTo, catTo] at HO5
          go_wp2_with (at_builtin; refine wpList_append_any _ rfl (.tmp 31) (.tmp 32) _ rfl w.heap.size 39 i0 _ 2 16 Try.underlying23 hi0 hz0 hz1 hz2 rfl (by decide) _ _ _ rfl HO5.out _ _ _ _ _ rfl (HX.out.below HB5.out).reads h1 (by unfold maxLen; omega) (by omega) hsz ?_; intro v4 w4 hown4 hgr4 hat4)
          have HO4 := Lib.hid hown4
          have HB4 := Lib.hid (HB5.out.grown hgr4 hsz (own_base HO5.out))
          clear hown4 hgr4 hat4
          go_wp2
          go_roundw
          case rel => exact ⟨1, by go_num, by decide, by simpa [sumTo, catTo] using HO4.out, HB4.out⟩
          case measure => simp [intOf]
        · simp only [sumTo, catTo] at HO5
          go_wp2_with (at_builtin; refine wpList_append_any _ rfl (.tmp 31) (.tmp 32) _ rfl w.heap.size 39 i0 _ 2 16 Try.underlying23 hi0 hz0 hz1 hz2 rfl (by decide) _ _ _ rfl HO5.out _ _ _ _ _ rfl (HY.out.below HB5.out).reads h2 (by unfold maxLen; omega) (by omega) hsz ?_; intro v4 w4 hown4 hgr4 hat4)
          have HO4 := Lib.hid hown4
          have HB4 := Lib.hid (HB5.out.grown hgr4 hsz (own_base HO5.out))
          clear hown4 hgr4 hat4
          go_wp2
          go_roundw
          case rel => exact ⟨2, by go_num, by decide, by simpa [sumTo, catTo] using HO4.out, HB4.out⟩
          case measure => simp [intOf]
        · simp only [sumTo, catTo] at HO5
          simp only [sumTo]
          go_wp2
          go_ret
          exact ⟨_, _, rfl, HO5.out, HB5.out⟩

set_option maxRecDepth 10000 in
set_option maxHeartbeats 1000000 in
theorem w_growF (n : Nat) (w : World) (hn : n ≤ 100000) :
    Calls Try.prog 62 #[.slice none 0 0, .int .i64 n] w (GrowPost 34 1 w) := by
  obtain ⟨i0, hi0, hz0, hz1, hz2⟩ := info_parts info_f32
  by_cases h0 : 0 < n
  · have hz := run_append_zeros (P := Try.prog) w 27 3 27 34 i0 _ Try.underlying27 Try.underlying3 hi0 hz0 n (by rw [hz1]; omega) h0 (by omega) (by rw [hz2]; omega)
    have HC := Lib.hid (grownCap_ge w n 0 34)
    have HM := Lib.hid (grownCap_le_maxLen w n 0 34 (by unfold maxLen; omega))
    generalize grownCap w n 0 34 = C at *
    have HS : Hid ((Builtin.zeroCells (Value.float .f32 0).cells n ++ Builtin.zeroCells (Value.float .f32 0).cells (C - n)).size = C * 1) := Lib.hid (by
      rw [Array.size_append, size_zeroCells', size_zeroCells', ← Nat.add_mul, Nat.add_sub_cancel' HC.out]; rfl)
    generalize Builtin.zeroCells (Value.float .f32 0).cells n ++ Builtin.zeroCells (Value.float .f32 0).cells (C - n) = Z at *
    have hC : n ≤ C := HC.out
    go_enter Try.func62, Try.ntmps62
    go_wp2_with (at_builtin; refine wpList_append_run rfl (.tmp 20) (.tmp 21) _ _ rfl _ _ _ _ rfl rfl hz ?_)
    go_ret
    exact ⟨_, _, rfl, World.ownsRow_made w.drew Z C (Nat.le_refl _) HM.out HS.out, (below_drew (Below.refl _ _)).alloc (Nat.le_refl _) _⟩
  · have e0 : n = 0 := by omega
    subst e0
    show Calls Try.prog 62 #[.slice none 0 0, .int .i64 0] w (GrowPost 34 1 w)
    go_enter Try.func62, Try.ntmps62
    go_wp2
    go_ret
    exact ⟨_, _, rfl, World.ownsRow_nil _ _ _ _, Below.refl _ _⟩

set_option maxRecDepth 10000 in
set_option maxHeartbeats 2000000 in
theorem w_concatF (xs ys : List Value) (n m : Nat) (A1 A2 : Option Addr) (c1 c2 g c : Nat) (w : World) (hg : Blk w g 27 #[.slice A1 n c1, .slice A2 m c2])
    (hx : Rd w w.heap.size 1 A1 n xs) (hy : Rd w w.heap.size 1 A2 m ys) (h1 : ∀ u ∈ xs, u.oneCell' = true) (h2 : ∀ u ∈ ys, u.oneCell' = true) (hn : n ≤ 10000) (hm : m ≤ 10000) :
    Calls Try.prog 42 #[.slice (some ⟨g, 0, none⟩) 2 c] w (CatPost 34 1 (n + m) (xs ++ ys) w) := by
  have k := fun (W : World) => w_growF (n + m) W (by omega)
  obtain ⟨i0, hi0, hz0, hz1, hz2⟩ := info_parts info_f32
  have HG := Lib.hid hg
  have HX := Lib.hid hx
  have HY := Lib.hid hy
  have g0 : w.cell? ⟨g, 0, none⟩ = some (.slice A1 n c1) := hg.cell 0
  have g1 : w.cell? ⟨g, 1, none⟩ = some (.slice A2 m c2) := hg.cell 1
  have hgl := hg.lt
  clear hg hx hy
  go_enter Try.func42, Try.ntmps42
  go_wp2_with fail
  go_loopw [3, 11] (fun s3 s11 wx => (∃ i : Nat, s11 = .int .i64 i ∧ i ≤ 2 ∧ s3 = .int .i64 (sumTo n m i)) ∧ w = wx) (fun _ s11 _ => 2 - (intOf s11).toNat)
  case atStart => exact ⟨⟨0, rfl, by decide, rfl⟩, rfl⟩
  case round =>
    obtain ⟨⟨i, rfl, hi, rfl⟩, rfl⟩ := hrel
    rcases (by omega : i = 0 ∨ i = 1 ∨ i = 2) with rfl | rfl | rfl
    · simp only [sumTo]
      clear k
      go_wp2
      go_roundw
      case rel => exact ⟨⟨1, by go_num, by decide, by simp⟩, trivial⟩
      case measure => simp [intOf]
    · simp only [sumTo]
      clear k
      go_wp2
      go_roundw
      case rel => exact ⟨⟨2, by go_num, by decide, by simp⟩, trivial⟩
      case measure => simp [intOf]
    · simp only [sumTo]
      go_wp2_with fail
      refine (k _).mono ?_
      rintro e w1 ⟨A, cc, rfl, ho, hb⟩
      have HO := Lib.hid ho
      have HB := Lib.hid hb
      clear ho hb k g0 g1
      go_wp2_with fail
      go_loopw [6, 27] (CatLoop 34 1 n m xs ys w) (fun _ s27 _ => 2 - (intOf s27).toNat)
      case atStart => exact ⟨0, rfl, by decide, HO.out, HB.out⟩
      case round =>
        obtain ⟨i, rfl, hi, how, hbl⟩ := hrel
        obtain ⟨A5, c5, rfl⟩ := own_form how
        have HO5 := Lib.hid how
        have HB5 := Lib.hid hbl
        have hsz : w.heap.size ≤ wr.heap.size := hbl.size
        have HGR := HG.out.below hbl hgl
        have g0 : wr.cell? ⟨g, 0, none⟩ = some (.slice A1 n c1) := HGR.cell 0
        have g1 : wr.cell? ⟨g, 1, none⟩ = some (.slice A2 m c2) := HGR.cell 1
        clear how hbl HGR
        rcases (by omega : i = 0 ∨ i = 1 ∨ i = 2) with rfl | rfl | rfl
        · simp only [sumTo, catTo] at HO5
          go_wp2_with (at_builtin; refine wpList_append_any _ rfl (.tmp 31) (.tmp 32) _ rfl w.heap.size 34 i0 _ 1 4 Try.underlying27 hi0 hz0 hz1 hz2 rfl (by decide) _ _ _ rfl HO5.out _ _ _ _ _ rfl (HX.out.below HB5.out).reads h1 (by unfold maxLen; omega) (by omega) hsz ?_; intro v4 w4 hown4 hgr4 hat4)
          have HO4 := Lib.hid hown4
          have HB4 := Lib.hid (HB5.out.grown hgr4 hsz (own_base HO5.out))
          clear hown4 hgr4 hat4
          go_wp2
          go_roundw
          case rel => exact ⟨1, by go_num, by decide, by simpa [sumTo, catTo] using HO4.out, HB4.out⟩
          case measure => simp [intOf]
        · simp only [sumTo, catTo] at HO5
          go_wp2_with (at_builtin; refine wpList_append_any _ rfl (.tmp 31) (.tmp 32) _ rfl w.heap.size 34 i0 _ 1 4 Try.underlying27 hi0 hz0 hz1 hz2 rfl (by decide) _ _ _ rfl HO5.out _ _ _ _ _ rfl (HY.out.below HB5.out).reads h2 (by unfold maxLen; omega) (by omega) hsz ?_; intro v4 w4 hown4 hgr4 hat4)
          have HO4 := Lib.hid hown4
          have HB4 := Lib.hid (HB5.out.grown hgr4 hsz (own_base HO5.out))
          clear hown4 hgr4 hat4
          go_wp2
          go_roundw
          case rel => exact ⟨2, by go_num, by decide, by simpa [sumTo, catTo] using HO4.out, HB4.out⟩
          case measure => simp [intOf]
        · simp only [sumTo, catTo] at HO5
          simp only [sumTo]
          go_wp2
          go_ret
          exact ⟨_, _, rfl, HO5.out, HB5.out⟩

end Go.Proofs.Ytfkbbicacgeiiaa
