/- Walks: samples that are the same, samples that are equal numbers. -/
import Derived.Test.YtfkbbicacgeiiaaM4
namespace Go.Proofs.Ytfkbbicacgeiiaa
open Go.RowKit

theorem quo_p0 : floatBits .quo .f64 4607182418800017408 0 = some 9218868437227405312 := by decide
theorem quo_m0 : floatBits .quo .f64 4607182418800017408 9223372036854775808 = some 18442240474082181120 := by decide

set_option maxRecDepth 10000 in
set_option maxHeartbeats 1000000 in
theorem w_same (x : Nat) (A : Int) (w : World) (h : Bd .f64 A x) :
    Calls Try.prog 28 #[.float .f64 x, .float .f64 x] w fun e w' => e = .returned (.bool true) ∧ w = w' := by
  have o := ZEq.order (y := x) h (.inl rfl)
  by_cases hz : isZ .f64 x
  · rcases hz with rfl | rfl
    · change Calls Try.prog 28 #[.float .f64 0, .float .f64 0] w fun e w' => e = .returned (.bool true) ∧ w = w'
      have c := fb_rule (t := 65) quo_p0
      have o1 : FloatKind.f64.format.order 0 0 = some .eq := by decide
      have o2 : FloatKind.f64.format.order 9218868437227405312 0 = some .gt := by decide
      clear o h
      go_enter Try.func28, Try.ntmps28
      go_wp2
      go_ret
      exact ⟨rfl, rfl⟩
    · change Calls Try.prog 28 #[.float .f64 9223372036854775808, .float .f64 9223372036854775808] w fun e w' => e = .returned (.bool true) ∧ w = w'
      have c := fb_rule (t := 65) quo_m0
      have o1 : FloatKind.f64.format.order 9223372036854775808 0 = some .eq := by decide
      have o2 : FloatKind.f64.format.order 18442240474082181120 0 = some .lt := by decide
      have o3 : FloatKind.f64.format.order 9223372036854775808 9223372036854775808 = some .eq := by decide
      clear o h
      go_enter Try.func28, Try.ntmps28
      go_wp2
      go_ret
      exact ⟨rfl, rfl⟩
  · obtain ⟨hlt, s, m, e, hr, _⟩ := h
    have hm : m ≠ 0 := fun h0 => hz (isZ_of_read hlt (h0 ▸ hr))
    have o2 := (order_zero hr).2.1
    have hm' : (m == 0) = false := by simpa using hm
    rw [hm'] at o2
    unfold eqB at o2
    clear hr hlt hz hm hm'
    go_enter Try.func28, Try.ntmps28
    go_wp2
    go_ret
    exact ⟨rfl, rfl⟩

set_option maxRecDepth 10000 in
set_option maxHeartbeats 4000000 in
theorem w_first (xs : List Nat) (A A' : Option Addr) (c c' : Nat) (n : Nat) (w : World) (hl : xs.length = n) (hr : Rd w w.heap.size 1 A n (xs.map flV)) (hr' : Rd w w.heap.size 1 A' n (xs.map flV)) (hb : ∀ x ∈ xs, Bd .f32 127 x) (hn : n ≤ 1000) :
    Calls Try.prog 32 #[.slice A n c, .slice A' n c'] w fun e w' => e = .returned (.int .i64 (-1)) ∧ Below w.heap.size w w' := by
  have HR := Lib.hid hr
  have HR' := Lib.hid hr'
  have HB := Lib.hid hb
  have HL := Lib.hid hl
  clear hr hr' hb hl
  go_enter Try.func32, Try.ntmps32
  go_wp2_with fail
  go_loopw [5] (fun s5 wx => (∃ i : Nat, s5 = .int .i64 i ∧ i ≤ n) ∧ Below w.heap.size w wx) (fun s5 _ => n - (intOf s5).toNat)
  case atStart => exact ⟨⟨0, rfl, Nat.zero_le _⟩, Below.refl _ _⟩
  case round =>
    obtain ⟨⟨i, rfl, hi⟩, hbl0⟩ := hrel
    have HBL := Lib.hid hbl0
    clear hbl0
    by_cases hlt : i < n
    · obtain ⟨b, o, rfl, hbl, hcell⟩ := HR.out.at_ (by omega)
      obtain ⟨b', o', rfl, hbl', hcell'⟩ := HR'.out.at_ (by omega)
      have hx : i < xs.length := by have := HL.out; omega
      have c0 : wr.cell? ⟨b, o + i, none⟩ = some (.float .f32 xs[i]) := (HBL.out.cell (p := ⟨b, o + i, none⟩) hbl).trans (hcell i _ (by simp [hx, flV]))
      have c1 : wr.cell? ⟨b', o' + i, none⟩ = some (.float .f32 xs[i]) := (HBL.out.cell (p := ⟨b', o' + i, none⟩) hbl').trans (hcell' i _ (by simp [hx, flV]))
      have hbd := HB.out _ (List.getElem_mem hx)
      have hc := conv_ok (s := .f32) (d := .f64) (by decide) hbd (by decide) (by decide)
      have cc := cv_rule (s := 34) (d := 65) hc.1 (by kernel_rfl) (by kernel_rfl)
      have kk := fun W => w_same (cv .f32 xs[i] .f64) _ W hc.2
      have g1 : decide ((n : Int) ≤ i) = false := decide_eq_false (by omega)
      clear hcell hcell' hbd hc
      generalize cv .f32 xs[i] .f64 = y at *
      generalize xs[i] = x at *
      clear hx
      go_wp2_with fail
      go_quiet (first | (go_at_call 28; exact Calls.quiet_of_same ((kk _).mono fun _ _ ⟨a, b⟩ => ⟨a, b.symm⟩)))
      go_wp2
      go_roundw
      case rel => exact ⟨⟨i + 1, by go_num, by omega⟩, below_drewN HBL.out _⟩
      case measure => simp [intOf]; omega
    · go_wp2
      go_ret
      exact ⟨rfl, HBL.out⟩

set_option maxHeartbeats 1000000 in
theorem w_lawSame (xs : List Nat) (A A' : Option Addr) (c c' : Nat) (n : Nat) (w : World) (hl : xs.length = n) (hr : Rd w w.heap.size 1 A n (xs.map flV)) (hr' : Rd w w.heap.size 1 A' n (xs.map flV)) (hb : ∀ x ∈ xs, Bd .f32 127 x) (hn : n ≤ 1000) :
    Calls Try.prog 13 #[.slice A n c, .slice A' n c'] w fun e w' => e = .returned (.bool true) ∧ Below w.heap.size w w' := by
  have k := w_first xs A A' c c' n w hl hr hr' hb hn
  clear hl hr hr' hb
  go_enter Try.func13, Try.ntmps13
  go_wp2_with fail
  refine k.mono ?_
  rintro e w1 ⟨rfl, hb⟩
  have HB := Lib.hid hb
  clear hb
  go_wp2
  go_ret
  exact ⟨rfl, HB.out⟩

set_option maxRecDepth 10000 in
set_option maxHeartbeats 4000000 in
theorem w_equal (xs ys : List Nat) (A A' : Option Addr) (c c' : Nat) (n : Nat) (w : World) (hl : xs.length = n) (hl' : ys.length = n) (hr : Rd w w.heap.size 1 A n (xs.map flV)) (hr' : Rd w w.heap.size 1 A' n (ys.map flV))
    (hb : ∀ (i : Nat) (h : i < xs.length) (h' : i < ys.length), FloatKind.f32.format.order xs[i] ys[i] = some .eq) (hn : n ≤ 1000) :
    Calls Try.prog 19 #[.slice A n c, .slice A' n c'] w fun e w' => e = .returned (.bool true) ∧ Below w.heap.size w w' := by
  have HR := Lib.hid hr
  have HR' := Lib.hid hr'
  have HB := Lib.hid hb
  have HL := Lib.hid hl
  have HL' := Lib.hid hl'
  clear hr hr' hb hl hl'
  go_enter Try.func19, Try.ntmps19
  go_wp2_with fail
  go_loopw [13] (fun s13 wx => (∃ i : Nat, s13 = .int .i64 i ∧ i ≤ n) ∧ Below w.heap.size w wx) (fun s13 _ => n - (intOf s13).toNat)
  case atStart => exact ⟨⟨0, rfl, Nat.zero_le _⟩, Below.refl _ _⟩
  case round =>
    obtain ⟨⟨i, rfl, hi⟩, hbl0⟩ := hrel
    have HBL := Lib.hid hbl0
    clear hbl0
    by_cases hlt : i < n
    · obtain ⟨b, o, rfl, hbl, hcell⟩ := HR.out.at_ (by omega)
      obtain ⟨b', o', rfl, hbl', hcell'⟩ := HR'.out.at_ (by omega)
      have hx : i < xs.length := by have := HL.out; omega
      have hy : i < ys.length := by have := HL'.out; omega
      have c0 : wr.cell? ⟨b, o + i, none⟩ = some (.float .f32 xs[i]) := (HBL.out.cell (p := ⟨b, o + i, none⟩) hbl).trans (hcell i _ (by simp [hx, flV]))
      have c1 : wr.cell? ⟨b', o' + i, none⟩ = some (.float .f32 ys[i]) := (HBL.out.cell (p := ⟨b', o' + i, none⟩) hbl').trans (hcell' i _ (by simp [hy, flV]))
      have oo := HB.out i hx hy
      clear hcell hcell'
      generalize xs[i] = x at *
      generalize ys[i] = y at *
      clear hx hy
      go_wp2_with fail
      go_quiet (fail)
      go_wp2
      go_roundw
      case rel => exact ⟨⟨i + 1, by go_num, by omega⟩, below_drewN HBL.out _⟩
      case measure => simp [intOf]; omega
    · go_wp2
      go_ret
      exact ⟨rfl, HBL.out⟩

end Go.Proofs.Ytfkbbicacgeiiaa
