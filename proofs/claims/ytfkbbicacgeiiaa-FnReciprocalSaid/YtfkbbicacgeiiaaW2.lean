/- Walks: a mode's step. -/
import Derived.Test.YtfkbbicacgeiiaaW1
import Derived.Test.YtfkbbicacgeiiaaM2
import Derived.Test.YtfkbbicacgeiiaaW00
import Derived.StillTailTactics
import Derived.Deep.RegionWith
import Derived.Outline
import Derived.Lib.Hide
import Derived.LoopTactic
namespace Go.Proofs.Ytfkbbicacgeiiaa
open Go.RowKit

def mdV (m : Md) : Value := .agg #[.complex .f32 m.pole.1 m.pole.2, .complex .f32 m.gain.1 m.gain.2]

set_option maxHeartbeats 400000 in
theorem w_stepMode (p q g h z1 z2 x : Nat) (w : World) (hs : StepOk ⟨(p, q), (g, h)⟩ (z1, z2) x) :
    Calls Try.prog 12 #[.agg #[.complex .f32 p q, .complex .f32 g h], .complex .f32 z1 z2, .float .f32 x] w fun e w' =>
      e = .returned (.complex .f32 (stepC ⟨(p, q), (g, h)⟩ (z1, z2) x).1 (stepC ⟨(p, q), (g, h)⟩ (z1, z2) x).2) ∧ Below w.heap.size w w' := by
  have k1 := fun W => w_mulS z1 z2 p q W hs.mul
  have k2 := fun W => w_scS g h x W hs.sc
  have k3 := fun W => w_addS _ _ _ _ W hs.add
  go_enter Try.func12, Try.ntmps12
  go_wp2
  go_quiet (first
    | (go_at_call 30; exact Calls.quiet_of_same ((k1 _).mono fun _ _ ⟨a, b⟩ => ⟨a, b.symm⟩))
    | (go_at_call 31; exact Calls.quiet_of_same ((k2 _).mono fun _ _ ⟨a, b⟩ => ⟨a, b.symm⟩))
    | (go_at_call 29; exact Calls.quiet_of_same ((k3 _).mono fun _ _ ⟨a, b⟩ => ⟨a, b.symm⟩)))
  go_wp2
  go_ret
  exact ⟨rfl, below_drewN ((Below.refl _ _).alloc (Nat.le_refl _) _) nq⟩

def mdCells (ms : List Md) : List Value := ms.flatMap fun m => [.complex .f32 m.pole.1 m.pole.2, .complex .f32 m.gain.1 m.gain.2]
def cV (z : C2) : Value := .complex .f32 z.1 z.2

attribute [local go_sem] run_store_float run_store_complex

theorem mdCells_at (ms : List Md) (k : Nat) (h : k < ms.length) :
    (mdCells ms)[k * 2]? = some (.complex .f32 ms[k].pole.1 ms[k].pole.2) ∧ (mdCells ms)[k * 2 + 1]? = some (.complex .f32 ms[k].gain.1 ms[k].gain.2) := by
  induction ms generalizing k with
  | nil => simp at h
  | cons m ms ih =>
    cases k with
    | zero => simp [mdCells]
    | succ k =>
      have := ih k (by simpa using h)
      unfold mdCells at this ⊢
      simp only [List.flatMap_cons, List.getElem_cons_succ]
      have e1 : (k + 1) * 2 = k * 2 + 2 := by omega
      rw [e1]
      simpa using this

/-- a round's states: those before k are new -/
def half (ms : List Md) (zs : List C2) (x k : Nat) : List C2 := (stepAll ms zs x).take k ++ zs.drop k

theorem stepAll_at {ms : List Md} {zs : List C2} {x k : Nat} (h1 : k < ms.length) (h2 : k < zs.length) (h3 : k < (stepAll ms zs x).length) : (stepAll ms zs x)[k] = stepC ms[k] zs[k] x := by
  simp [stepAll]

theorem outOf_snoc (zs : List C2) (z : C2) : outOf (zs ++ [z]) = fb .add .f32 (outOf zs) z.1 := by simp [outOf, List.foldl_append]

theorem take_snoc' {α : Type} (l : List α) (k : Nat) (h : k < l.length) : l.take (k + 1) = l.take k ++ [l[k]] := List.take_succ_eq_append_getElem h

theorem half_at {ms : List Md} {zs : List C2} {x k : Nat} (h : zs.length = ms.length) (hk : k < ms.length) :
    ((half ms zs x k).map cV).toArray[k]? = some (cV (zs[k]'(by omega))) := by
  have hl := stepAll_length (x := x) h
  unfold half
  rw [List.getElem?_toArray, List.getElem?_map, List.getElem?_append_right (by simp; omega)]
  have : k - (List.take k (stepAll ms zs x)).length = 0 := by simp; omega
  rw [this, List.getElem?_drop, Nat.add_zero, List.getElem?_eq_getElem (by omega)]
  rfl

theorem half_set {ms : List Md} {zs : List C2} {x k : Nat} (h : zs.length = ms.length) (hk : k < ms.length) :
    (((half ms zs x k).map cV).toArray.setIfInBounds k (cV (stepC ms[k] (zs[k]'(by omega)) x))) = ((half ms zs x (k + 1)).map cV).toArray := by
  have hl := stepAll_length (x := x) h
  unfold half
  rw [List.setIfInBounds_toArray]
  congr 1
  rw [take_snoc' _ k (by omega), stepAll_at hk (by omega), List.append_assoc, List.map_append, List.map_append, List.set_append, if_neg (by simp; omega)]
  have e : k - (List.map cV (List.take k (stepAll ms zs x))).length = 0 := by simp; omega
  rw [e, List.drop_eq_getElem_cons (by omega : k < zs.length)]
  rfl

theorem half_zero (ms : List Md) (zs : List C2) (x : Nat) : half ms zs x 0 = zs := by simp [half]
theorem half_end {ms : List Md} {zs : List C2} {x : Nat} (h : zs.length = ms.length) : half ms zs x ms.length = stepAll ms zs x := by
  have hl := stepAll_length (x := x) h
  unfold half
  rw [List.take_of_length_le (by omega), List.drop_of_length_le (by omega), List.append_nil]

theorem ret_float {k : FloatKind} {a b : Nat} (h : a = b) : Ending.returned (.float k a) = .returned (.float k b) := by rw [h]

set_option maxRecDepth 10000 in
set_option maxHeartbeats 400000 in
theorem w_step (ms : List Md) (zs : List C2) (x : Nat) (A : Option Addr) (c g c' B : Nat) (w : World) (hms : Rd w B 2 A ms.length (mdCells ms)) (hz : zs.length = ms.length)
    (hB : B ≤ g) (hg : Blk w g 37 (zs.map cV).toArray) (hm : ms.length ≤ 1000) (hok : ∀ (k : Nat) (m : Md) (z : C2), ms[k]? = some m → zs[k]? = some z → StepOk m z x)
    (hsum : ∀ (k : Nat) (z : C2), (stepAll ms zs x)[k]? = some z → floatBits .add .f32 (outOf ((stepAll ms zs x).take k)) z.1 = some (fb .add .f32 (outOf ((stepAll ms zs x).take k)) z.1)) :
    Calls Try.prog 25 #[.slice A ms.length c, .slice (some ⟨g, 0, none⟩) ms.length c', .float .f32 x] w fun e w' =>
      e = .returned (.float .f32 (outOf (stepAll ms zs x))) ∧ Blk w' g 37 ((stepAll ms zs x).map cV).toArray ∧ w.grownBy w' (some g) := by
  have HZ := Lib.hid hz
  have HOK := Lib.hid hok
  have HS := Lib.hid hsum
  have HG : Hid (Blk w g 37 (zs.map cV).toArray) := Lib.hid hg
  clear hz hok hsum
  go_enter Try.func25, Try.ntmps25
  go_wp2
  go_loopw [7, 12] (fun o i wr => ∃ k : Nat, k ≤ ms.length ∧ i = .int .i64 k ∧ o = .float .f32 (outOf ((stepAll ms zs x).take k)) ∧ Blk wr g 37 ((half ms zs x k).map cV).toArray ∧ w.grownBy wr (some g)) (fun _ i _ => ms.length - (intOf i).toNat)
  case atStart => exact ⟨0, Nat.zero_le _, rfl, rfl, by rw [half_zero]; exact HG.out, World.grownBy.refl _ _⟩
  case round =>
    obtain ⟨k, hk, rfl, rfl, hblk, hgr⟩ := hrel
    by_cases hlt : k < ms.length
    · obtain ⟨b, o, rfl, hb, hcell⟩ := hms.at_ (by omega)
      obtain ⟨hc0, hc1⟩ := mdCells_at ms k hlt
      have d0 := hgr.cell (hcell _ _ hc0) (by simp; omega)
      have d1 : wr.cell? ⟨b, o + k * 2 + 1, none⟩ = some _ := hgr.cell (hcell _ _ hc1) (by simp; omega)
      have hz' : k < zs.length := by have := HZ.out; omega
      have hstep := HOK.out k ms[k] zs[k] (by simp [hlt]) (by simp [hz'])
      have hk3 : k < (stepAll ms zs x).length := by rw [stepAll_length HZ.out]; exact hlt
      have hadd := HS.out k _ (List.getElem?_eq_getElem hk3)
      rw [stepAll_at hlt hz' hk3] at hadd
      have radd := fun W => run_float_arith (P := Try.prog) W .add 34 .f32 _ _ _ hadd
      have HO : Hid (fb .add .f32 (outOf ((stepAll ms zs x).take k)) (stepC ms[k] zs[k] x).1 = outOf ((stepAll ms zs x).take (k + 1))) :=
        Lib.hid (by rw [take_snoc' _ k hk3, outOf_snoc, stepAll_at hlt hz' hk3])
      have e0 : wr.cell? ⟨g, k, none⟩ = some (.complex .f32 zs[k].1 zs[k].2) := (hblk.cell k).trans (half_at HZ.out hlt)
      have HSET := Lib.hid (half_set (x := x) HZ.out hlt)
      have K := fun W => w_stepMode ms[k].pole.1 ms[k].pole.2 ms[k].gain.1 ms[k].gain.2 zs[k].1 zs[k].2 x W hstep
      have hgl := hblk.lt
      have HB : Hid (Blk wr g 37 ((half ms zs x k).map cV).toArray) := Lib.hid hblk
      have HGR := Lib.hid hgr
      clear hcell hc0 hc1 hstep hblk hgr hms hadd hg
      go_wp2_with fail
      go_region_with (go_at_call 12; refine (K _).mono ?_; rintro e w1 ⟨rfl, hb1⟩; have hb2 := ((HB.out.alloc _).drew).below hb1 (by simp; omega); have f1 := (hb2.cell k).trans (((HB.out).cell k).symm.trans e0); have f2 := hb2.frozen k)
      all_goals
        go_wp2_with fail
        go_roundw
        case rel => exact ⟨k + 1, by omega, by go_num, by rw [HO.out], by rw [← HSET.out]; exact hb2.set_ k _, only_setCell (grown_below (only_drew (only_alloc HGR.out _)) hb1) (.inl rfl) _⟩
        case measure => simp [intOf]; omega
    · have hkk : k = ms.length := by omega
      subst hkk
      rw [half_end HZ.out] at hblk
      have e : (stepAll ms zs x).take ms.length = stepAll ms zs x := List.take_of_length_le (by rw [stepAll_length HZ.out]; exact Nat.le_refl _)
      rw [e]
      clear e hg
      have HB := Lib.hid hblk
      have HGR := Lib.hid hgr
      clear hblk hgr
      go_wp2
      go_ret
      exact ⟨rfl, HB.out, HGR.out⟩
end Go.Proofs.Ytfkbbicacgeiiaa
