/- Draws of numbers: l01Below, l01Once, l01Int, l1Some, l1Odd. -/
import Derived.Test.YtfkbbicacgeiiaaG1
namespace Go.Proofs.Ytfkbbicacgeiiaa
open Go.RowKit

attribute [local go_sem] run_any_add run_any_sub run_any_mul run_any_quo

set_option maxRecDepth 10000 in
set_option maxHeartbeats 400000 in
theorem w_below (g B : Nat) (n : Int) (w : World) (hc : Cur w g B) (h1 : 1 ≤ n) (h2 : n ≤ 100000000) :
    Calls Try.prog 34 #[.pointer (some ⟨g, 0, none⟩), .int .i64 n] w (CP w g B (IntIn 0 (n - 1))) := by
  have k := fun (W : World) (h : Cur W g B) => w_byte g B W h
  by_cases h3 : n ≤ 256
  · go_enter Try.func34, Try.ntmps34
    go_wp2_with fail
    refine (k _ hc).mono ?_
    rintro e w1 ⟨⟨v, rfl, x, rfl, hx1, hx2⟩, hr1⟩
    have HR := Lib.hid hr1
    clear hr1 hc k
    go_wp2
    go_ret
    refine ⟨⟨_, rfl, _, rfl, ?_, ?_⟩, HR.out⟩
    · exact Int.emod_nonneg _ (by omega)
    · have := Int.emod_lt_of_pos x (show 0 < n by omega); omega
  · go_enter Try.func34, Try.ntmps34
    go_wp2_with fail
    refine (k _ hc).mono ?_
    rintro e w1 ⟨⟨v, rfl, x, rfl, hx1, hx2⟩, hr1⟩
    have H1 := Lib.hid hr1
    clear hr1
    go_wp2_with fail
    refine (k _ H1.out.1).mono ?_
    rintro e w2 ⟨⟨v, rfl, y, rfl, hy1, hy2⟩, hr2⟩
    have H2 := Lib.hid (H1.out.trans hr2)
    clear hr2 H1
    go_wp2_with fail
    refine (k _ H2.out.1).mono ?_
    rintro e w3 ⟨⟨v, rfl, z, rfl, hz1, hz2⟩, hr3⟩
    have H3 := Lib.hid (H2.out.trans hr3)
    clear hr3 H2
    go_wp2_with fail
    refine (k _ H3.out.1).mono ?_
    rintro e w4 ⟨⟨v, rfl, t, rfl, ht1, ht2⟩, hr4⟩
    have H4 := Lib.hid (H3.out.trans hr4)
    clear hr4 H3 k hc
    go_wp2
    go_ret
    refine ⟨⟨_, rfl, _, rfl, ?_, ?_⟩, H4.out⟩
    · exact Int.emod_nonneg _ (by omega)
    · have := Int.emod_lt_of_pos (x * 16777216 + y * 65536 + z * 256 + t) (show 0 < n by omega); omega

set_option maxRecDepth 10000 in
set_option maxHeartbeats 400000 in
theorem w_once (g B : Nat) (n : Int) (w : World) (hc : Cur w g B) (h1 : 1 ≤ n) (h2 : n ≤ 100000000) :
    Calls Try.prog 47 #[.pointer (some ⟨g, 0, none⟩), .int .i64 n] w (CP w g B IsBoolV) := by
  have k := w_below g B n w hc h1 h2
  go_enter Try.func47, Try.ntmps47
  go_wp2_with fail
  refine k.mono ?_
  rintro e w1 ⟨⟨v, rfl, x, rfl, hx1, hx2⟩, hr1⟩
  have HR := Lib.hid hr1
  clear hr1 hc k
  go_wp2
  go_ret
  exact ⟨⟨_, rfl, _, rfl⟩, HR.out⟩

set_option maxRecDepth 10000 in
set_option maxHeartbeats 400000 in
theorem w_int (g B : Nat) (b n c : Nat) (t : TypeId) (cs : Array Value) (w : World) (hc : Cur w g B) (hn : 1 ≤ n) (hn2 : n ≤ 1000) (hb : Blk w b t cs) (hcs : ∀ j, j < n → ∃ x : Int, cs[j]? = some (.int .i64 x)) (hne : b ≠ g) :
    Calls Try.prog 65 #[.pointer (some ⟨g, 0, none⟩), .slice (some ⟨b, 0, none⟩) n c] w (CP w g B fun v => ∃ x : Int, v = .int .i64 x) := by
  have k := w_below g B (n : Int) w hc (by omega) (by omega)
  have HC := Lib.hid hcs
  have HB := Lib.hid hb
  clear hcs hb
  go_enter Try.func65, Try.ntmps65
  go_wp2_with fail
  refine k.mono ?_
  rintro e w1 ⟨⟨v, rfl, x, rfl, hx1, hx2⟩, hr1⟩
  have HR := Lib.hid hr1
  obtain ⟨i, rfl⟩ := Int.eq_ofNat_of_zero_le hx1
  obtain ⟨y, hy⟩ := HC.out i (by omega)
  have hy1 := hr1.2.cell ((HB.out.cell i).trans hy) (by simp; omega)
  have hlt' : (i : Int) < n := by omega
  clear hr1 hc k hy
  go_wp2
  go_ret
  exact ⟨⟨_, rfl, _, rfl⟩, HR.out⟩

end Go.Proofs.Ytfkbbicacgeiiaa
