/- Walks: the arithmetic of single and double precision, where no NaN is met. -/
import Derived.Test.YtfkbbicacgeiiaaRows
import Derived.Test.YtfkbbicacgeiiaaM1
import Derived.WalkKit
import Derived.WalkSpells
import Derived.WalkLawsBesides
import Derived.BigQuiet
import Derived.Deep.QuietTactic
namespace Go.Proofs.Ytfkbbicacgeiiaa
open Go.RowKit

theorem cv_rule {s d : TypeId} {ks kd : FloatKind} {x r : Nat} (h : floatToFloatBits ks x kd = some r) (hs : (Try.prog.underlying s).isSome = true) (hd : Try.prog.underlying d = some (.float kd)) (W : World) :
    (convert s d (.float ks x)).run Try.prog W = .ok (.float kd r) W := run_convert_float_float W s d ks kd x r hs hd h

theorem fb_rule {op : BinOp} {t : TypeId} {k : FloatKind} {x y r : Nat} (h : floatBits op k x y = some r) (W : World) :
    (binOp op t (.float k x) (.float k y)).run Try.prog W = .ok (.float k r) W := run_float_arith W op t k x y r h

set_option maxHeartbeats 400000 in
theorem w_wid (a b : Nat) (w : World) (h : WidOk (a, b)) :
    Calls Try.prog 54 #[.complex .f32 a b] w fun e w' => e = .returned (.complex .f64 (widC (a, b)).1 (widC (a, b)).2) ∧ w = w' := by
  have c1 := cv_rule (s := 34) (d := 65) h.re (by kernel_rfl) (by kernel_rfl)
  have c2 := cv_rule (s := 34) (d := 65) h.im (by kernel_rfl) (by kernel_rfl)
  generalize (widC (a, b)).1 = r1 at *
  generalize (widC (a, b)).2 = r2 at *
  clear h
  go_enter Try.func54, Try.ntmps54
  go_wp2
  go_ret
  exact ⟨rfl, rfl⟩

set_option maxHeartbeats 400000 in
theorem w_nar (a b : Nat) (w : World) (h : NarOk (a, b)) :
    Calls Try.prog 52 #[.complex .f64 a b] w fun e w' => e = .returned (.complex .f32 (narC (a, b)).1 (narC (a, b)).2) ∧ w = w' := by
  have c1 := cv_rule (s := 65) (d := 34) h.re (by kernel_rfl) (by kernel_rfl)
  have c2 := cv_rule (s := 65) (d := 34) h.im (by kernel_rfl) (by kernel_rfl)
  generalize (narC (a, b)).1 = r1 at *
  generalize (narC (a, b)).2 = r2 at *
  clear h
  go_enter Try.func52, Try.ntmps52
  go_wp2
  go_ret
  exact ⟨rfl, rfl⟩

set_option maxHeartbeats 400000 in
theorem w_mulD (a b c d : Nat) (w : World) (h : MulOk (a, b) (c, d)) :
    Calls Try.prog 53 #[.complex .f64 a b, .complex .f64 c d] w fun e w' => e = .returned (.complex .f64 (mulDC (a, b) (c, d)).1 (mulDC (a, b) (c, d)).2) ∧ w = w' := by
  have c1 := fb_rule (t := 65) h.ac
  have c2 := fb_rule (t := 65) h.bd
  have c3 := fb_rule (t := 65) h.ad
  have c4 := fb_rule (t := 65) h.bc
  have c5 := fb_rule (t := 65) h.re
  have c6 := fb_rule (t := 65) h.im
  generalize (mulDC (a, b) (c, d)).1 = r1 at *
  generalize (mulDC (a, b) (c, d)).2 = r2 at *
  clear h
  go_enter Try.func53, Try.ntmps53
  go_wp2
  go_ret
  exact ⟨rfl, rfl⟩

set_option maxHeartbeats 400000 in
theorem w_mulS (a b c d : Nat) (w : World) (h : MulSOk (a, b) (c, d)) :
    Calls Try.prog 30 #[.complex .f32 a b, .complex .f32 c d] w fun e w' => e = .returned (.complex .f32 (mulSC (a, b) (c, d)).1 (mulSC (a, b) (c, d)).2) ∧ w = w' := by
  have k1 := fun W => w_wid a b W h.wx
  have k2 := fun W => w_wid c d W h.wy
  have k3 := fun W => w_mulD _ _ _ _ W h.mul
  have k4 := fun W => w_nar _ _ W h.nar
  go_enter Try.func30, Try.ntmps30
  go_wp2_with fail
  refine (k1 _).mono ?_; rintro e w' ⟨rfl, rfl⟩
  go_wp2_with fail
  refine (k2 _).mono ?_; rintro e w' ⟨rfl, rfl⟩
  go_wp2_with fail
  refine (k3 _).mono ?_; rintro e w' ⟨rfl, rfl⟩
  go_wp2_with fail
  refine (k4 _).mono ?_; rintro e w' ⟨rfl, rfl⟩
  go_wp2_with fail
  go_ret
  exact ⟨rfl, rfl⟩

set_option maxHeartbeats 400000 in
theorem w_addS (a b c d : Nat) (w : World) (h : AddOk (a, b) (c, d)) :
    Calls Try.prog 29 #[.complex .f32 a b, .complex .f32 c d] w fun e w' => e = .returned (.complex .f32 (addSC (a, b) (c, d)).1 (addSC (a, b) (c, d)).2) ∧ w = w' := by
  have c1 := fb_rule (t := 34) h.re
  have c2 := fb_rule (t := 34) h.im
  generalize (addSC (a, b) (c, d)).1 = r1 at *
  generalize (addSC (a, b) (c, d)).2 = r2 at *
  clear h
  go_enter Try.func29, Try.ntmps29
  go_wp2
  go_ret
  exact ⟨rfl, rfl⟩

set_option maxHeartbeats 400000 in
theorem w_scS (a b x : Nat) (w : World) (h : ScOk (a, b) x) :
    Calls Try.prog 31 #[.complex .f32 a b, .float .f32 x] w fun e w' => e = .returned (.complex .f32 (scSC (a, b) x).1 (scSC (a, b) x).2) ∧ w = w' := by
  have c1 := fb_rule (t := 34) h.re
  have c2 := fb_rule (t := 34) h.im
  generalize (scSC (a, b) x).1 = r1 at *
  generalize (scSC (a, b) x).2 = r2 at *
  clear h
  go_enter Try.func31, Try.ntmps31
  go_wp2
  go_ret
  exact ⟨rfl, rfl⟩

end Go.Proofs.Ytfkbbicacgeiiaa
