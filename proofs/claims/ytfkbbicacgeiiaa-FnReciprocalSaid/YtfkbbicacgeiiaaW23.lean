/- The law's walk. -/
import Derived.Test.YtfkbbicacgeiiaaW21
import Derived.Deep.RegionHeld3
import Derived.Test.YtfkbbicacgeiiaaW24
import Derived.Test.YtfkbbicacgeiiaaM5
namespace Go.Proofs.Ytfkbbicacgeiiaa
open Go.RowKit

attribute [local go_sem] run_store_float run_store_complex alloc_drewN setCell_drewN

theorem BytesAt.below {w w' : World} {B n : Nat} {A : Option Addr} (h : BytesAt w B A n) (hb : Below B w w') : BytesAt w' B A n := h.keep fun _ hp => hb.cell hp
theorem BytesAt.more {w : World} {B B' n : Nat} {A : Option Addr} (h : BytesAt w B A n) (hB : B ≤ B') : BytesAt w B' A n := fun hn => by
  obtain ⟨ad, e, hb, hc⟩ := h hn
  exact ⟨ad, e, by omega, hc⟩

theorem blk_new' {w : World} {g : Nat} {t : TypeId} {cs : Array Value} (h : g = w.heap.size) : Blk (w.alloc (.cells cs t)) g t cs := h ▸ Blk.new w t cs
theorem blk_drew {w : World} {g : Nat} {t : TypeId} {cs : Array Value} (h : Blk w g t cs) : Blk w.drew g t cs := h
theorem own_none {w : World} {g base : Nat} {t : TypeId} (hb : base ≤ g) (h : Blk w g t #[]) : w.ownsRow base t 1 (.slice (some ⟨g, 0, none⟩) 0 0) 0 [] :=
  ⟨rfl, .inr ⟨g, 0, #[], rfl, hb, h, Nat.le_refl _, by decide, rfl, rfl⟩⟩
theorem own_drew {w : World} {base size n : Nat} {e : TypeId} {v : Value} {xs : List Value} (h : w.ownsRow base e size v n xs) : w.drew.ownsRow base e size v n xs := h
theorem rowV_one (rows : List RowD) : ∀ u ∈ rows.map rowV, u.oneCell' = true := by
  intro u hu
  simp at hu
  obtain ⟨r, _, rfl⟩ := hu
  rfl

theorem old_undef {x : Value} {w : World} {t : TypeId} {cs : Array Value} (h : x = undef) (g o n c : Nat) (k : x = .slice (some ⟨g, o, none⟩) n c ∨ x = .pointer (some ⟨g, o, none⟩)) : Blk w g t cs := by
  subst h
  rcases k with k | k <;> cases k
theorem old_slice {x : Value} {w : World} {t : TypeId} {cs : Array Value} {b m d : Nat} (h : x = .slice (some ⟨b, 0, none⟩) m d) (hb : Blk w b t cs) (g o n c : Nat)
    (k : x = .slice (some ⟨g, o, none⟩) n c ∨ x = .pointer (some ⟨g, o, none⟩)) : Blk w g t cs := by
  subst h
  rcases k with k | k <;> cases k
  exact hb
theorem old_ptr {x : Value} {w : World} {t : TypeId} {cs : Array Value} {b : Nat} (h : x = .pointer (some ⟨b, 0, none⟩)) (hb : Blk w b t cs) (g o n c : Nat)
    (k : x = .slice (some ⟨g, o, none⟩) n c ∨ x = .pointer (some ⟨g, o, none⟩)) : Blk w g t cs := by
  subst h
  rcases k with k | k <;> cases k
  exact hb

theorem ne_full {w : World} {g b base : Nat} {e t : TypeId} {cs : Array Value} {xs : List Value} (hb : Blk w g t cs) (h : w.ownsRow base e 1 (.slice (some ⟨b, 0, none⟩) 0 0) 0 xs) (hc : 0 < cs.size) : some g ≠ (Value.slice (some ⟨b, 0, none⟩) 0 0).ownBlock := by
  rcases h.2 with ⟨h, _⟩ | ⟨g', c, cur, hv, _, hcur, hle, hsz, _⟩
  · cases h
  · cases hv
    intro hg
    simp [Value.ownBlock] at hg
    subst hg
    unfold Blk at hb
    rw [hb] at hcur
    injection hcur with hcur
    injection hcur with hcur _ _
    subst hcur
    omega

/-- An append as a step of a region that draws; two blocks that it leaves alone are carried over. -/
theorem step_append_old {P : Program} {w : World} {ops : Array Oper} {o : Oper} {a : Act} {K : Act → World → Prop} {Q : Exit → Act → World → Prop} {E : Prop} (hgd : o.guard = none) (s x : Operand) (t : TypeId)
    (ho : o.op = .call { callee := .builtin .append, args := #[s, x], argTypes := #[t, t] })
    (base : Nat) (e : TypeId) (i : TypeInfo) (z : Value) (size bytes : Nat) (ht : P.underlying t = some (.slice e)) (hi : P.info? e = some i) (hz : i.zero = some z)
    (hsize : i.size = size) (hby : i.bytes = bytes) (hzs : z.cells.size = size) (hsz : 0 < size)
    (v : Value) (n : Nat) (xs : List Value) (hs : a.eval s = v) (hown : w.ownsRow base e size v n xs)
    (B : Nat) (A : Option Addr) (m c : Nat) (news : List Value) (hx : a.eval x = .slice A m c) (hr : Reads w B size A m news) (h1 : ∀ u ∈ news, u.oneCell' = true)
    (h63 : n + m ≤ maxLen) (hbytes : (n + m) * bytes ≤ 140737488355328) (hbase : base ≤ w.heap.size)
    (o1 : Operand) (t1 : TypeId) (cs1 : Array Value) (k1 : ∀ g o n c, (a.eval o1 = .slice (some ⟨g, o, none⟩) n c ∨ a.eval o1 = .pointer (some ⟨g, o, none⟩)) → Blk w g t1 cs1) (n1 : ∀ g, Blk w g t1 cs1 → w.ownsRow base e size v n xs → some g ≠ v.ownBlock)
    (o2 : Operand) (t2 : TypeId) (cs2 : Array Value) (k2 : ∀ g o n c, (a.eval o2 = .slice (some ⟨g, o, none⟩) n c ∨ a.eval o2 = .pointer (some ⟨g, o, none⟩)) → Blk w g t2 cs2) (n2 : ∀ g, Blk w g t2 cs2 → w.ownsRow base e size v n xs → some g ≠ v.ownBlock)
    (h : ∀ v' w', w'.ownsRow base e size v' (n + m) (xs ++ news) → w.grownBy w' v.ownBlock → (v'.ownBlock = v.ownBlock ∨ v'.ownBlock = some w.heap.size) →
      (∀ g o n c, (a.eval o1 = .slice (some ⟨g, o, none⟩) n c ∨ a.eval o1 = .pointer (some ⟨g, o, none⟩)) → Blk w' g t1 cs1) →
      (∀ g o n c, (a.eval o2 = .slice (some ⟨g, o, none⟩) n c ∨ a.eval o2 = .pointer (some ⟨g, o, none⟩)) → Blk w' g t2 cs2) → K (a.put o.dst v') w') :
    if Region.wanted o (yielded ops a.tmps) = true then Oper.wp P o a w K Q else E :=
  step_append_any w hgd s x t ho base e i z size bytes ht hi hz hsize hby hzs hsz v n xs hs hown B A m c news hx hr h1 h63 hbytes hbase fun v' w' h2 h3 h4 =>
    h v' w' h2 h3 h4 (fun g o n c hk => (k1 g o n c hk).grown h3 (n1 g (k1 g o n c hk) hown)) (fun g o n c hk => (k2 g o n c hk).grown h3 (n2 g (k2 g o n c hk) hown))


theorem info_int : (Try.prog.info? 3).map (fun i => (i.zero, i.size, i.bytes)) = some (some (.int .i64 0), 1, 8) := by kernel_rfl

def EarsLoop (w0 : World) (p : Nat) (s14 s15 : Value) (wx : World) : Prop :=
  ∃ i : Nat, s15 = .int .i64 i ∧ i ≤ 25 ∧ wx.ownsRow w0.heap.size 3 1 s14 i (List.replicate i (.int .i64 p)) ∧ Below w0.heap.size w0 wx

def LawPost (w : World) (e : Ending) (w' : World) : Prop := e = .returned (.bool true) ∧ Below w.heap.size w w'

def OnesLoop (w0 : World) (m : Nat) (s11 s78 : Value) (wx : World) : Prop :=
  ∃ i : Nat, s78 = .int .i64 i ∧ i ≤ m ∧ wx.ownsRow w0.heap.size 34 1 s11 i ((List.replicate i 1065353216).map flV) ∧ Below w0.heap.size w0 wx

set_option maxRecDepth 10000 in
set_option maxHeartbeats 400000 in
theorem w_lawBig (A : Option Addr) (n c : Nat) (w : World) (hn : 1048576 < n) :
    Calls Try.prog 4 #[.slice A n c] w (LawPost w) := by
  have d : decide ((1048576 : Int) < n) = true := decide_eq_true (by omega)
  go_enter Try.func4, Try.ntmps4
  go_wp2
  go_ret
  exact ⟨rfl, Below.refl _ _⟩

set_option maxRecDepth 10000 in
set_option maxHeartbeats 8000000 in
theorem w_law (A : Option Addr) (n c : Nat) (w : World) (hb : BytesAt w w.heap.size A n) (hn : n ≤ 1048576) :
    Calls Try.prog 4 #[.slice A n c] w (LawPost w) := by
  have kM := fun (W : World) (h : BytesAt W W.heap.size A n) => w_makeRoom A n c W h (by omega)
  have kF : ∀ W : World, BytesAt W W.heap.size A n → Calls Try.prog 7 #[.slice A n c, .int .i64 3] W (FreshPost W) := fun W h => w_fresh A n c 3 W h hn (by decide)
  have kS := fun (A : Option Addr) (n c : Nat) (W : World) (h : BytesAt W W.heap.size A n) (h2 : n ≤ 601) => w_makeSmall A n c W h (by omega)
  have dn : decide ((1048576 : Int) < n) = false := decide_eq_false (by omega)
  have HA := Lib.hid hb
  have HN := Lib.hid hn
  clear hb hn
  go_enter Try.func4, Try.ntmps4
  go_wp2_with fail
  refine (kM _ HA.out).mono ?_
  rintro e1 w1 ⟨R, rc, ms, S, sd, rows, rfl, hom, hos, hor, hm4, hr4, hgm, hgr, hb1⟩
  have RA1 := Lib.hid (roomAt_own hom hos hor)
  have HGM := Lib.hid hgm
  have HGR := Lib.hid hgr
  have HGD := Lib.hid (goodRows_good hgm hgr hm4 hr4)
  have B1 := Lib.hid hb1
  have HA1 := Lib.hid ((HA.out.below hb1).more hb1.size)
  clear hom hos hor hgm hgr hb1 kM HA
  go_wp2_with fail
  refine (kF _ (by exact ((HA1.out.below ((Below.refl _ _).alloc (Nat.le_refl _) _)).more (by simp)))).mono ?_
  rintro e2 w2 ⟨A2, n2, c2, rfl, hby2, hn2, hb2⟩
  have BR2 := Lib.hid ((Blk.new w1 47 #[Value.slice R ms.length rc, Value.slice S rows.length sd]).below hb2 (by simp))
  have hb2' := ((Below.refl w1.heap.size w1).alloc (Nat.le_refl _) (Obj.cells #[Value.slice R ms.length rc, Value.slice S rows.length sd] 47)).trans (hb2.mono (by simp))
  have RA2 := Lib.hid ((RA1.out.below hb2').more hb2'.size)
  have B2 := Lib.hid (B1.out.trans (hb2'.mono B1.out.size))
  have HA2 := Lib.hid ((HA1.out.below hb2').more hb2'.size)
  clear hb2 hb2' RA1 B1 HA1 kF
  go_wp2_with fail
  refine (kS _ _ _ _ hby2 hn2).mono ?_
  rintro e3 w3 ⟨A3, c3, xs, rfl, hox, hxl, hxb, hb3⟩
  have BR3 := Lib.hid (BR2.out.below hb3 BR2.out.lt)
  have RA3 := Lib.hid ((RA2.out.below hb3).more hb3.size)
  have B3 := Lib.hid (B2.out.trans (hb3.mono B2.out.size))
  have HA3 := Lib.hid ((HA2.out.below hb3).more hb3.size)
  have HX3 := Lib.hid (Rd.of_own hox)
  have HXB := Lib.hid hxb
  have r0 : w3.cell? ⟨w1.heap.size, 0, none⟩ = some (.slice R ms.length rc) := BR3.out.cell 0
  have r1 : w3.cell? ⟨w1.heap.size, 1, none⟩ = some (.slice S rows.length sd) := BR3.out.cell 1
  clear hb3 hox hxb hby2 hn2 BR2 RA2 B2 HA2 kS
  by_cases hz : rows.length = 0
  · have d0 : ((rows.length : Int) == 0) = true := by rw [hz]; rfl
    go_wp2
    go_ret
    exact ⟨rfl, B3.out⟩
  · have d0 : ((rows.length : Int) == 0) = false := by rw [beq_eq_false_iff_ne]; omega
    have hne : (rows.length : Int) ≠ 0 := by omega
    obtain ⟨x1, hx10, hx11, k1⟩ := w_atV A n c 1 w3 HA3.out HN.out (by decide)
    obtain ⟨s, hs, hsl⟩ := rem_place hx10 (show 0 < rows.length by omega)
    have K1 : ∀ q : Nat, Calls Try.prog 8 #[.slice A n c, .int .i64 1] (w3.drewN q) fun e w' => e = .returned (.int .i64 x1) ∧ w3.drewN q = w' := k1
    clear k1
    go_wp2_with fail
    go_quiet (first | (go_at_call 8; exact Calls.quiet_of_same ((K1 _).mono fun _ _ ⟨a, b⟩ => ⟨a, b.symm⟩)))
    obtain ⟨w4, hw4⟩ : ∃ w4 : World, w4 = w3.drewN nq := ⟨_, rfl⟩
    rw [← hw4]
    have BR4 : Hid (Blk w4 w1.heap.size 47 #[Value.slice R ms.length rc, Value.slice S rows.length sd]) := Lib.hid (by rw [hw4]; exact BR3.out)
    have RA4 : Hid (RoomAt w4 w4.heap.size R ms S rows) := Lib.hid (by rw [hw4]; exact RA3.out.below (below_drewN (Below.refl _ _) _))
    have B4 : Hid (Below w.heap.size w w4) := Lib.hid (by rw [hw4]; exact below_drewN B3.out _)
    have HA4 : Hid (BytesAt w4 w4.heap.size A n) := Lib.hid (by rw [hw4]; exact HA3.out)
    have HX4 : Hid (Rd w4 w4.heap.size 1 A3 xs.length (xs.map flV)) := Lib.hid (by rw [hw4]; exact HX3.out)
    clear hw4 BR3 RA3 B3 HA3 HX3 r0 r1 K1 hs
    have r0 : w4.cell? ⟨w1.heap.size, 0, none⟩ = some (.slice R ms.length rc) := BR4.out.cell 0
    have r1 : w4.cell? ⟨w1.heap.size, 1, none⟩ = some (.slice S rows.length sd) := BR4.out.cell 1
    obtain ⟨x2, hx20, hx21, k2⟩ := w_atV A n c 2 w4 HA4.out HN.out (by decide)
    obtain ⟨e, he, hel⟩ := rem_place hx20 (show 0 < rows.length by omega)
    have K2 : ∀ q : Nat, Calls Try.prog 8 #[.slice A n c, .int .i64 2] (w4.drewN q) fun e w' => e = .returned (.int .i64 x2) ∧ w4.drewN q = w' := k2
    clear k2
    go_wp2_with fail
    go_quiet (first | (go_at_call 8; exact Calls.quiet_of_same ((K2 _).mono fun _ _ ⟨a, b⟩ => ⟨a, b.symm⟩)))
    obtain ⟨w5, hw5⟩ : ∃ w5 : World, w5 = w4.drewN nq := ⟨_, rfl⟩
    rw [← hw5]
    have BR5 : Hid (Blk w5 w1.heap.size 47 #[Value.slice R ms.length rc, Value.slice S rows.length sd]) := Lib.hid (by rw [hw5]; exact BR4.out)
    have RA5 : Hid (RoomAt w5 w5.heap.size R ms S rows) := Lib.hid (by rw [hw5]; exact RA4.out.below (below_drewN (Below.refl _ _) _))
    have B5 : Hid (Below w.heap.size w w5) := Lib.hid (by rw [hw5]; exact below_drewN B4.out _)
    have HA5 : Hid (BytesAt w5 w5.heap.size A n) := Lib.hid (by rw [hw5]; exact HA4.out)
    have HX5 : Hid (Rd w5 w5.heap.size 1 A3 xs.length (xs.map flV)) := Lib.hid (by rw [hw5]; exact HX4.out)
    clear hw5 BR4 RA4 B4 HA4 HX4 r0 r1 K2 he
    have r0 : w5.cell? ⟨w1.heap.size, 0, none⟩ = some (.slice R ms.length rc) := BR5.out.cell 0
    have r1 : w5.cell? ⟨w1.heap.size, 1, none⟩ = some (.slice S rows.length sd) := BR5.out.cell 1
    have hws := (HGR.out _ (List.getElem_mem hsl)).2
    have hwe := (HGR.out _ (List.getElem_mem hel)).2
    have hls := (HGR.out _ (List.getElem_mem hsl)).1
    have hle := (HGR.out _ (List.getElem_mem hel)).1
    have kR : ∀ W : World, RoomAt W W.heap.size R ms S rows → Rd W W.heap.size 1 A3 xs.length (xs.map flV) → Calls Try.prog 16 #[.agg #[.slice R ms.length rc, .slice S rows.length sd], .int .i64 s, .int .i64 e, .slice A3 xs.length c3, .int .i64 25] W (RingPost (scaledMs ms (prodL rows[s].ws rows[e].ws)) xs 25 W) :=
      fun W h h' => w_ringRoom ms rows xs R S A3 rc sd c3 s e 25 W h HGD.out h' HXB.out (by omega) (by decide) hsl hel hws hwe
    have kR' : ∀ W : World, RoomAt W W.heap.size R ms S rows → Rd W W.heap.size 1 A3 xs.length (xs.map flV) → Calls Try.prog 16 #[.agg #[.slice R ms.length rc, .slice S rows.length sd], .int .i64 e, .int .i64 s, .slice A3 xs.length c3, .int .i64 25] W (RingPost (scaledMs ms (prodL rows[s].ws rows[e].ws)) xs 25 W) :=
      fun W h h' => by rw [prodL_comm]; exact w_ringRoom ms rows xs R S A3 rc sd c3 e s 25 W h HGD.out h' HXB.out (by omega) (by decide) hel hsl hwe hws
    have HPG : Hid (∀ m ∈ scaledMs ms (prodL rows[s].ws rows[e].ws), PoleGain m) := Lib.hid fun m hm => (scaled_good HGM.out (prodL_bd hws hwe) m hm).pg
    have HLB : Hid (∀ y ∈ ringL (scaledMs ms (prodL rows[s].ws rows[e].ws)) xs 25, Bd .f32 127 y) := Lib.hid (ring_bd HPG.out HXB.out (by rw [scaledMs_length (prodL_length hls hle)]; omega) 25 (by decide))
    have HLL : Hid ((ringL (scaledMs ms (prodL rows[s].ws rows[e].ws)) xs 25).length = 25) := Lib.hid (ringL_length _ _ _)
    clear hws hwe hls hle
    unfold RingPost at kR kR'
    generalize hL : ringL (scaledMs ms (prodL rows[s].ws rows[e].ws)) xs 25 = L at *
    have HL := Lib.hid hL
    clear hL
    go_wp2_with fail
    refine (kR _ RA5.out HX5.out).mono ?_
    rintro e6 w6 ⟨A6, c6, rfl, ho6, hb6⟩
    have BR6 := Lib.hid (BR5.out.below hb6 BR5.out.lt)
    have RA6 := Lib.hid ((RA5.out.below hb6).more hb6.size)
    have B6 := Lib.hid (B5.out.trans (hb6.mono B5.out.size))
    have HA6 := Lib.hid ((HA5.out.below hb6).more hb6.size)
    have HX6 := Lib.hid ((HX5.out.below hb6).more hb6.size)
    have HY6 := Lib.hid (Rd.of_own ho6)
    clear ho6 hb6 kR BR5 RA5 B5 HA5 HX5 r0 r1
    have r0 : w6.cell? ⟨w1.heap.size, 0, none⟩ = some (.slice R ms.length rc) := BR6.out.cell 0
    have r1 : w6.cell? ⟨w1.heap.size, 1, none⟩ = some (.slice S rows.length sd) := BR6.out.cell 1
    go_wp2_with fail
    refine (kR' _ RA6.out HX6.out).mono ?_
    rintro e7 w7 ⟨A7, c7, rfl, ho7, hb7⟩
    have BR7 := Lib.hid (BR6.out.below hb7 BR6.out.lt)
    have RA7 := Lib.hid ((RA6.out.below hb7).more hb7.size)
    have B7 := Lib.hid (B6.out.trans (hb7.mono B6.out.size))
    have HA7 := Lib.hid ((HA6.out.below hb7).more hb7.size)
    have HX7 := Lib.hid ((HX6.out.below hb7).more hb7.size)
    have HY7 := Lib.hid ((HY6.out.below hb7).more hb7.size)
    have HZ7 := Lib.hid (Rd.of_own ho7)
    clear ho7 hb7 kR' BR6 RA6 B6 HA6 HX6 HY6 r0 r1
    have kE := w_lawSame L A6 A7 c6 c7 25 w7 HLL.out HY7.out HZ7.out HLB.out (by decide)
    go_wp2_with fail
    refine kE.mono ?_
    rintro e8 w8 ⟨rfl, hb8⟩
    have BR8 := Lib.hid (BR7.out.below hb8 BR7.out.lt)
    have RA8 := Lib.hid ((RA7.out.below hb8).more hb8.size)
    have B8 := Lib.hid (B7.out.trans (hb8.mono B7.out.size))
    have HA8 := Lib.hid ((HA7.out.below hb8).more hb8.size)
    have HX8 := Lib.hid ((HX7.out.below hb8).more hb8.size)
    have HY8 := Lib.hid ((HY7.out.below hb8).more hb8.size)
    clear hb8 kE BR7 RA7 B7 HA7 HX7 HY7 HZ7
    have r0 : w8.cell? ⟨w1.heap.size, 0, none⟩ = some (.slice R ms.length rc) := BR8.out.cell 0
    have r1 : w8.cell? ⟨w1.heap.size, 1, none⟩ = some (.slice S rows.length sd) := BR8.out.cell 1
    have hgl : w1.heap.size < w8.heap.size := BR8.out.lt
    obtain ⟨i1, hi1, hf1, hf2, hf3⟩ := info_parts info_f32
    go_wp2_with fail
    go_loopw [11, 78] (OnesLoop w8 ms.length) (fun _ s78 _ => ms.length - (intOf s78).toNat)
    case atStart =>
      exact ⟨0, rfl, Nat.zero_le _, World.ownsRow_made (base := w8.heap.size) (e := 34) (size := 1) w8 #[] 0 (Nat.le_refl _) (by decide) rfl, (Below.refl _ _).alloc (Nat.le_refl _) _⟩
    case round =>
      obtain ⟨i, rfl, hi, how, hbl⟩ := hrel
      obtain ⟨A9, c9, rfl⟩ := own_form how
      have HO := Lib.hid how
      have HB := Lib.hid hbl
      have hszr : w8.heap.size ≤ wr.heap.size := hbl.size
      clear how hbl r0 r1
      by_cases hlt : i < ms.length
      · have HE : Hid ((List.replicate (i + 1) 1065353216).map flV = (List.replicate i 1065353216).map flV ++ [.float .f32 1065353216]) := Lib.hid (by rw [List.replicate_succ']; simp [flV])
        go_wp2_with (at_builtin; refine wpList_append_any _ rfl (.tmp 80) (.tmp 81) _ rfl w8.heap.size 34 i1 _ 1 4 Try.underlying27 hi1 hf1 hf2 hf3 rfl (by decide) _ _ _ rfl (HO.out.alloc _) _ _ 1 1 _ rfl (reads_new _ _ 1 1 _ rfl) (by intro u hu; simp at hu; subst hu; rfl) (by unfold maxLen; omega) (by omega) (by simp; omega) ?_; intro v4 w4 hown4 hgr4 hat4)
        have HO4 := Lib.hid hown4
        have HB4 := Lib.hid ((HB.out.alloc hszr _).grown hgr4 (by simp; omega) (own_base HO.out))
        clear hown4 hgr4 hat4
        go_wp2
        go_roundw
        case rel => exact ⟨i + 1, by go_num, by omega, by rw [HE.out]; exact HO4.out, HB4.out⟩
        case measure => simp [intOf]; omega
      · have hin : i = ms.length := by omega
        subst hin
        obtain ⟨w9, hw9⟩ : ∃ w9 : World, w9 = wr := ⟨_, rfl⟩
        subst hw9
        have BR9 := Lib.hid (BR8.out.below HB.out BR8.out.lt)
        have RA9 := Lib.hid ((RA8.out.below HB.out).more hszr)
        have B9 := Lib.hid (B8.out.trans (HB.out.mono B8.out.size))
        have HA9 := Lib.hid ((HA8.out.below HB.out).more hszr)
        have HX9 := Lib.hid ((HX8.out.below HB.out).more hszr)
        have HY9 := Lib.hid ((HY8.out.below HB.out).more hszr)
        clear BR8 RA8 B8 HA8 HX8 HY8 HB hi hlt
        obtain ⟨i2, hi2, hr1, hr2, hr3⟩ := info_parts info_row
        have hg9 : w1.heap.size < w9.heap.size := BR9.out.lt
        have r0 : w9.cell? ⟨w1.heap.size, 0, none⟩ = some (.slice R ms.length rc) := BR9.out.cell 0
        have r1 : w9.cell? ⟨w1.heap.size, 1, none⟩ = some (.slice S rows.length sd) := BR9.out.cell 1
        have ht : True := trivial
        go_wp2_with fail
        go_cut [12] (fun s12 wx => ∃ (g : Nat) (A8 : Option Addr) (c8 : Nat), s12 = .pointer (some ⟨g, 0, none⟩) ∧ Blk wx g 47 #[.slice R ms.length rc, .slice A8 (rows.length + 1) c8] ∧ wx.ownsRow w9.heap.size 27 1 (.slice A8 (rows.length + 1) c8) (rows.length + 1) (rows.map rowV ++ [.slice A9 ms.length c9]) ∧ Below w9.heap.size w9 wx)
        case first =>
          clear HLL HLB HPG HL HGR HGM HXB HGD HX9 HY9 HA9 B9
          go_region_held3 (fun w' => w'.cell? ⟨w1.heap.size, 0, none⟩ = some (.slice R ms.length rc) ∧ w'.cell? ⟨w1.heap.size, 1, none⟩ = some (.slice S rows.length sd))
            ((refine ⟨(Below.cell (w := w9) (B := w9.heap.size) (p := ⟨w1.heap.size, 0, none⟩) ?_ hg9).trans r0, (Below.cell (w := w9) (B := w9.heap.size) (p := ⟨w1.heap.size, 1, none⟩) ?_ hg9).trans r1⟩ <;> first | (((try refine below_drew ?_); first | (first | assumption | exact Below.refl _ _ | exact below_drewN (Below.refl _ _) _) | (refine Below.alloc ?_ (by (first | omega | (simp <;> omega))) _; (try refine below_drew ?_); first | (first | assumption | exact Below.refl _ _ | exact below_drewN (Below.refl _ _) _) | (refine Below.alloc ?_ (by (first | omega | (simp <;> omega))) _; (try refine below_drew ?_); first | (first | assumption | exact Below.refl _ _ | exact below_drewN (Below.refl _ _) _) | (refine Below.alloc ?_ (by (first | omega | (simp <;> omega))) _; (try refine below_drew ?_); (first | assumption | exact Below.refl _ _ | exact below_drewN (Below.refl _ _) _)))))) | (refine Below.setCell (Below.setCell ?_ (by (first | omega | (simp <;> omega))) _) (by (first | omega | (simp <;> omega))) _; (((try refine below_drew ?_); first | (first | assumption | exact Below.refl _ _ | exact below_drewN (Below.refl _ _) _) | (refine Below.alloc ?_ (by (first | omega | (simp <;> omega))) _; (try refine below_drew ?_); first | (first | assumption | exact Below.refl _ _ | exact below_drewN (Below.refl _ _) _) | (refine Below.alloc ?_ (by (first | omega | (simp <;> omega))) _; (try refine below_drew ?_); first | (first | assumption | exact Below.refl _ _ | exact below_drewN (Below.refl _ _) _) | (refine Below.alloc ?_ (by (first | omega | (simp <;> omega))) _; (try refine below_drew ?_); (first | assumption | exact Below.refl _ _ | exact below_drewN (Below.refl _ _) _)))))))))
            ((first
            | (refine step_append_old rfl (.tmp 86) (.tmp 88) _ rfl w9.heap.size 27 i2 _ 1 24 Try.underlying45 hi2 hr1 hr2 hr3 rfl (by decide) (.slice (some ⟨_, 0, none⟩) 0 0) 0 [] (by rfl) (own_none (by (first | omega | (simp <;> omega))) (by (((try refine blk_drew ?_); first | assumption | exact blk_new' (by simp <;> fail) | (apply Blk.alloc; first | assumption | exact blk_new' (by simp <;> fail) | (apply Blk.alloc; first | assumption | exact blk_new' (by simp <;> fail) | (apply Blk.alloc; first | assumption | exact blk_new' (by simp <;> fail)))))))) _ S rows.length sd _ (by rfl) (RA9.out.shapes.reads.below (by (((try refine below_drew ?_); first | (first | assumption | exact Below.refl _ _ | exact below_drewN (Below.refl _ _) _) | (refine Below.alloc ?_ (by (first | omega | (simp <;> omega))) _; (try refine below_drew ?_); first | (first | assumption | exact Below.refl _ _ | exact below_drewN (Below.refl _ _) _) | (refine Below.alloc ?_ (by (first | omega | (simp <;> omega))) _; (try refine below_drew ?_); first | (first | assumption | exact Below.refl _ _ | exact below_drewN (Below.refl _ _) _) | (refine Below.alloc ?_ (by (first | omega | (simp <;> omega))) _; (try refine below_drew ?_); (first | assumption | exact Below.refl _ _ | exact below_drewN (Below.refl _ _) _)))))))) (rowV_one rows) (by unfold maxLen; omega) (by omega) (by (first | omega | (simp <;> omega))) (.tmp 91) 27 #[Value.slice A9 ms.length c9] (by first | exact old_undef (by rfl) | exact old_slice (by rfl) (by (((try refine blk_drew ?_); first | assumption | exact blk_new' (by simp <;> fail) | (apply Blk.alloc; first | assumption | exact blk_new' (by simp <;> fail) | (apply Blk.alloc; first | assumption | exact blk_new' (by simp <;> fail) | (apply Blk.alloc; first | assumption | exact blk_new' (by simp <;> fail))))))) | exact old_ptr (by rfl) (by (((try refine blk_drew ?_); first | assumption | exact blk_new' (by simp <;> fail) | (apply Blk.alloc; first | assumption | exact blk_new' (by simp <;> fail) | (apply Blk.alloc; first | assumption | exact blk_new' (by simp <;> fail) | (apply Blk.alloc; first | assumption | exact blk_new' (by simp <;> fail)))))))) (fun _ hb h => ne_full hb h (by simp)) (.tmp 12) 47 #[Value.slice none 0 0, Value.slice none 0 0] (by first | exact old_undef (by rfl) | exact old_slice (by rfl) (by (((try refine blk_drew ?_); first | assumption | exact blk_new' (by simp <;> fail) | (apply Blk.alloc; first | assumption | exact blk_new' (by simp <;> fail) | (apply Blk.alloc; first | assumption | exact blk_new' (by simp <;> fail) | (apply Blk.alloc; first | assumption | exact blk_new' (by simp <;> fail))))))) | exact old_ptr (by rfl) (by (((try refine blk_drew ?_); first | assumption | exact blk_new' (by simp <;> fail) | (apply Blk.alloc; first | assumption | exact blk_new' (by simp <;> fail) | (apply Blk.alloc; first | assumption | exact blk_new' (by simp <;> fail) | (apply Blk.alloc; first | assumption | exact blk_new' (by simp <;> fail)))))))) (fun _ hb h => ne_full hb h (by simp)) ?_; intro v4 wA hown4 hgr4 hat4 hq1 hq2; rw [Nat.zero_add, List.nil_append] at hown4; obtain ⟨A4, c4, rfl⟩ := own_form hown4; have hszA : w9.heap.size ≤ wA.heap.size := Nat.le_trans (by (first | omega | (simp <;> omega))) hgr4.size; have HBA : Below w9.heap.size w9 wA := Below.grown (by (((try refine below_drew ?_); first | (first | assumption | exact Below.refl _ _ | exact below_drewN (Below.refl _ _) _) | (refine Below.alloc ?_ (by (first | omega | (simp <;> omega))) _; (try refine below_drew ?_); first | (first | assumption | exact Below.refl _ _ | exact below_drewN (Below.refl _ _) _) | (refine Below.alloc ?_ (by (first | omega | (simp <;> omega))) _; (try refine below_drew ?_); first | (first | assumption | exact Below.refl _ _ | exact below_drewN (Below.refl _ _) _) | (refine Below.alloc ?_ (by (first | omega | (simp <;> omega))) _; (try refine below_drew ?_); (first | assumption | exact Below.refl _ _ | exact below_drewN (Below.refl _ _) _))))))) hgr4 (by (first | omega | (simp <;> omega))) (by intro r hr; cases hr; (first | omega | (simp <;> omega))); (try (have q1 := hq1 _ _ _ _ (Or.inl rfl))); (try (have q2 := hq2 _ _ 0 0 (Or.inr rfl))); clear hq1 hq2)
            | (refine step_append_old rfl (.tmp 89) (.tmp 91) _ rfl w9.heap.size 27 i2 _ 1 24 Try.underlying45 hi2 hr1 hr2 hr3 rfl (by decide) (.slice A4 rows.length c4) rows.length (rows.map rowV) (by rfl) (by (((try refine own_drew ?_); first | assumption | (refine World.ownsRow.alloc ?_ _; (try refine own_drew ?_); first | assumption | (refine World.ownsRow.alloc ?_ _; (try refine own_drew ?_); first | assumption | (refine World.ownsRow.alloc ?_ _; (try refine own_drew ?_); assumption)))))) _ (some ⟨_, 0, none⟩) 1 1 _ (by rfl) (reads_blk (n := 1) (t := 27) (cs := #[Value.slice A9 ms.length c9]) (by (((try refine blk_drew ?_); first | assumption | exact blk_new' (by simp <;> fail) | (apply Blk.alloc; first | assumption | exact blk_new' (by simp <;> fail) | (apply Blk.alloc; first | assumption | exact blk_new' (by simp <;> fail) | (apply Blk.alloc; first | assumption | exact blk_new' (by simp <;> fail))))))) rfl) (by intro u hu; simp at hu; subst hu; rfl) (by unfold maxLen; omega) (by omega) (by (first | omega | (simp <;> omega))) (.tmp 12) 47 #[Value.slice none 0 0, Value.slice none 0 0] (by first | exact old_undef (by rfl) | exact old_slice (by rfl) (by (((try refine blk_drew ?_); first | assumption | exact blk_new' (by simp <;> fail) | (apply Blk.alloc; first | assumption | exact blk_new' (by simp <;> fail) | (apply Blk.alloc; first | assumption | exact blk_new' (by simp <;> fail) | (apply Blk.alloc; first | assumption | exact blk_new' (by simp <;> fail))))))) | exact old_ptr (by rfl) (by (((try refine blk_drew ?_); first | assumption | exact blk_new' (by simp <;> fail) | (apply Blk.alloc; first | assumption | exact blk_new' (by simp <;> fail) | (apply Blk.alloc; first | assumption | exact blk_new' (by simp <;> fail) | (apply Blk.alloc; first | assumption | exact blk_new' (by simp <;> fail)))))))) (fun _ hb h => (own_blk_ne h hb (by decide)).symm) (.tmp 12) 47 #[Value.slice none 0 0, Value.slice none 0 0] (by first | exact old_undef (by rfl) | exact old_slice (by rfl) (by (((try refine blk_drew ?_); first | assumption | exact blk_new' (by simp <;> fail) | (apply Blk.alloc; first | assumption | exact blk_new' (by simp <;> fail) | (apply Blk.alloc; first | assumption | exact blk_new' (by simp <;> fail) | (apply Blk.alloc; first | assumption | exact blk_new' (by simp <;> fail))))))) | exact old_ptr (by rfl) (by (((try refine blk_drew ?_); first | assumption | exact blk_new' (by simp <;> fail) | (apply Blk.alloc; first | assumption | exact blk_new' (by simp <;> fail) | (apply Blk.alloc; first | assumption | exact blk_new' (by simp <;> fail) | (apply Blk.alloc; first | assumption | exact blk_new' (by simp <;> fail)))))))) (fun _ hb h => (own_blk_ne h hb (by decide)).symm) ?_; intro v7 wB hown7 hgr7 hat7 hq3 hq4; obtain ⟨A8, c8, rfl⟩ := own_form hown7; have hszB : w9.heap.size ≤ wB.heap.size := Nat.le_trans (by (first | omega | (simp <;> omega))) hgr7.size; have HBB : Below w9.heap.size w9 wB := Below.grown (by (((try refine below_drew ?_); first | (first | assumption | exact Below.refl _ _ | exact below_drewN (Below.refl _ _) _) | (refine Below.alloc ?_ (by (first | omega | (simp <;> omega))) _; (try refine below_drew ?_); first | (first | assumption | exact Below.refl _ _ | exact below_drewN (Below.refl _ _) _) | (refine Below.alloc ?_ (by (first | omega | (simp <;> omega))) _; (try refine below_drew ?_); first | (first | assumption | exact Below.refl _ _ | exact below_drewN (Below.refl _ _) _) | (refine Below.alloc ?_ (by (first | omega | (simp <;> omega))) _; (try refine below_drew ?_); (first | assumption | exact Below.refl _ _ | exact below_drewN (Below.refl _ _) _))))))) hgr7 (by (first | omega | (simp <;> omega))) (own_base hown4); (try (have q3 := hq3 _ _ 0 0 (Or.inr rfl); have z0 := q3.cell 0; have z1 := q3.cell 1; have z2 := q3.frozen 0; have z3 := q3.frozen 1)); clear hq3 hq4)
            | fail))
          all_goals
            go_wp2_with fail
            go_meet
            first
              | exact ⟨_, A8, c8, rfl, Blk.new _ _ _, hown7.alloc _, HBB.alloc hszB _⟩
              | exact ⟨_, A8, c8, rfl, (q3.set_ 0 _).set_ 1 _, own_set (own_set hown7 (own_blk_ne hown7 q3 (by decide)) _) (own_blk_ne hown7 q3 (by decide)) _, (HBB.setCell (by simp <;> omega) _).setCell (by simp <;> omega) _⟩
        case rest =>
          obtain ⟨g, A8, c8, rfl, hbu, how8, hb9c⟩ := hcut
          have BU := Lib.hid hbu
          have BRc := Lib.hid (BR9.out.below hb9c BR9.out.lt)
          have RAc := Lib.hid ((RA9.out.below hb9c).more hb9c.size)
          have Bc := Lib.hid (B9.out.trans (hb9c.mono B9.out.size))
          have HAc := Lib.hid ((HA9.out.below hb9c).more hb9c.size)
          have HXc := Lib.hid ((HX9.out.below hb9c).more hb9c.size)
          have HYc := Lib.hid ((HY9.out.below hb9c).more hb9c.size)
          have hones := ((Rd.of_own HO.out).below hb9c).more hb9c.size
          obtain ⟨UR, hUR⟩ : ∃ UR : RowD, UR = ⟨A9, c9, List.replicate ms.length 1065353216⟩ := ⟨_, rfl⟩
          have hUl : UR.ws.length = ms.length := by rw [hUR]; exact List.length_replicate
          have HRU : rows.map rowV ++ [.slice A9 ms.length c9] = (rows ++ [UR]).map rowV := by rw [List.map_append, hUR]; simp [rowV]
          have HLU : Hid ((rows ++ [UR]).length = rows.length + 1) := Lib.hid (by simp)
          have RUc : Hid (RoomAt wc wc.heap.size R ms A8 (rows ++ [UR])) := Lib.hid ⟨RAc.out.modes, by
              rw [HLU.out, ← HRU]
              exact Rd.of_own how8, fun r hr => by
              rcases List.mem_append.1 hr with h | h
              · exact RAc.out.rows_ r h
              · simp at h
                subst h
                rw [hUl, hUR]
                exact hones⟩
          have HONE : Hid (UR.ws = List.replicate ms.length (one .f32)) := Lib.hid (by rw [hUR]; rfl)
          have HUG : Hid (RoomGood ms (rows ++ [UR])) := Lib.hid ⟨HGM.out, fun r hr => by
              rcases List.mem_append.1 hr with h | h
              · exact HGD.out.rows_ r h
              · simp at h
                subst h
                refine ⟨hUl, fun x hx => ?_⟩
                rw [HONE.out] at hx
                rw [List.eq_of_mem_replicate hx]
                exact one_bd.mono (by decide), by omega, by rw [HLU.out]; omega⟩
          have HUB : Hid (∀ x ∈ UR.ws, Bd .f32 0 x) := Lib.hid fun x hx => by
              rw [HONE.out] at hx
              rw [List.eq_of_mem_replicate hx]
              exact one_bd
          clear hbu how8 hb9c hones BR9 RA9 B9 HA9 HX9 HY9 HO r0 r1 HRU hUR hUl
          have hsU : s < (rows ++ [UR]).length := by rw [HLU.out]; omega
          have hpU : rows.length < (rows ++ [UR]).length := by rw [HLU.out]; omega
          have gU1 : (rows ++ [UR])[s].ws = rows[s].ws := by simp [List.getElem_append_left hsl]
          have gU2 : (rows ++ [UR])[rows.length].ws = UR.ws := by simp
          have hls := (HGR.out _ (List.getElem_mem hsl)).1
          have hws := (HGR.out _ (List.getElem_mem hsl)).2
          have HPG2 : Hid (∀ m ∈ scaledMs ms rows[s].ws, PoleGain m) := Lib.hid fun m hm => (scaled_good HGM.out hws m hm).pg
          have hlm2 : (scaledMs ms rows[s].ws).length ≤ 16 := by rw [scaledMs_length hls]; omega
          have HLB2 : Hid (∀ y ∈ ringL (scaledMs ms rows[s].ws) xs 25, Bd .f32 127 y) := Lib.hid (ring_bd HPG2.out HXB.out hlm2 25 (by decide))
          have HLL2 : Hid ((ringL (scaledMs ms rows[s].ws) xs 25).length = 25) := Lib.hid (ringL_length _ _ _)
          have kA : ∀ (E : Option Addr) (ec : Nat) (W : World), RoomAt W W.heap.size R ms A8 (rows ++ [UR]) → Rd W W.heap.size 1 A3 xs.length (xs.map flV) → Rd W W.heap.size 1 E 25 (List.replicate 25 (.int .i64 rows.length)) →
              Calls Try.prog 17 #[.agg #[.slice R ms.length rc, .slice A8 (rows.length + 1) c8], .int .i64 s, .slice E 25 ec, .slice A3 xs.length c3] W (RingPost (scaledMs ms rows[s].ws) xs 25 W) := fun E ec W h1 h2 h3 => by
            have h := w_listen ms (rows ++ [UR]) xs R A8 A3 E rc c8 c3 ec s rows.length 25 W h1 HUG.out h2 h3 (by omega) (by decide) hsU hpU (by rw [gU1]; exact hws) (by rw [gU2]; exact HONE.out) (by rw [gU1]; exact ring_ok HPG2.out HXB.out hlm2 25 (by decide)) (by rw [gU1]; exact listen_mul HPG2.out HXB.out 25 (by decide))
            rw [gU1, HLU.out] at h
            exact h
          have kB : ∀ (W : World), RoomAt W W.heap.size R ms A8 (rows ++ [UR]) → Rd W W.heap.size 1 A3 xs.length (xs.map flV) →
              Calls Try.prog 16 #[.agg #[.slice R ms.length rc, .slice A8 (rows.length + 1) c8], .int .i64 s, .int .i64 rows.length, .slice A3 xs.length c3, .int .i64 25] W (RingPost (scaledMs ms rows[s].ws) xs 25 W) := fun W h1 h2 => by
            have h := w_ringRoom ms (rows ++ [UR]) xs R A8 A3 rc c8 c3 s rows.length 25 W h1 HUG.out h2 HXB.out (by omega) (by decide) hsU hpU (by rw [gU1]; exact hws) (by rw [gU2]; exact HUB.out)
            rw [gU1, gU2, HONE.out, prodL_ones _ _ hls hws, HLU.out] at h
            exact h
          unfold RingPost at kA kB
          clear hls hws hlm2 HPG2 HUG HUB HONE hsU hpU gU1 gU2 HLU
          generalize rows ++ [UR] = U at *
          generalize ringL (scaledMs ms rows[s].ws) xs 25 = L2 at *
          have b0 : wc.cell? ⟨g, 0, none⟩ = some (.slice R ms.length rc) := BU.out.cell 0
          have b1 : wc.cell? ⟨g, 1, none⟩ = some (.slice A8 (rows.length + 1) c8) := BU.out.cell 1
          have r1 : wc.cell? ⟨w1.heap.size, 1, none⟩ = some (.slice S rows.length sd) := BRc.out.cell 1
          obtain ⟨i3, hi3, hq1, hq2, hq3⟩ := info_parts info_int
          go_wp2_with fail
          go_loopw [14, 15] (EarsLoop wc rows.length) (fun _ s15 _ => 25 - (intOf s15).toNat)
          case atStart =>
            exact ⟨0, rfl, by decide, World.ownsRow_made (base := wc.heap.size) (e := 3) (size := 1) wc #[] 0 (Nat.le_refl _) (by decide) rfl, (Below.refl _ _).alloc (Nat.le_refl _) _⟩
          case round =>
            obtain ⟨i, rfl, hi, how, hbl⟩ := hrel
            obtain ⟨A10, c10, rfl⟩ := own_form how
            have HO := Lib.hid how
            have HB := Lib.hid hbl
            have hszr : wc.heap.size ≤ wr.heap.size := hbl.size
            clear how hbl b0 b1 r1
            by_cases hlt : i < 25
            · have HE : Hid (List.replicate (i + 1) (Value.int .i64 rows.length) = List.replicate i (Value.int .i64 rows.length) ++ [.int .i64 rows.length]) := Lib.hid List.replicate_succ'
              go_wp2_with (at_builtin; refine wpList_append_any _ rfl (.tmp 102) (.tmp 104) _ rfl wc.heap.size 3 i3 _ 1 8 Try.underlying51 hi3 hq1 hq2 hq3 rfl (by decide) _ _ _ rfl (HO.out.alloc _) _ _ 1 1 _ rfl (reads_new _ _ 1 1 _ rfl) (by intro u hu; simp at hu; subst hu; rfl) (by unfold maxLen; omega) (by omega) (by simp; omega) ?_; intro v4 w4 hown4 hgr4 hat4)
              have HO4 := Lib.hid hown4
              have HB4 := Lib.hid ((HB.out.alloc hszr _).grown hgr4 (by simp; omega) (own_base HO.out))
              clear hown4 hgr4 hat4
              go_wp2
              go_roundw
              case rel => exact ⟨i + 1, by go_num, by omega, by rw [HE.out]; exact HO4.out, HB4.out⟩
              case measure => simp [intOf]; omega
            · have hin : i = 25 := by omega
              subst hin
              obtain ⟨v1, hv1⟩ : ∃ v1 : World, v1 = wr := ⟨_, rfl⟩
              subst hv1
              have BU1 := Lib.hid (BU.out.below HB.out BU.out.lt)
              have BR1 := Lib.hid (BRc.out.below HB.out BRc.out.lt)
              have RA1 := Lib.hid ((RAc.out.below HB.out).more hszr)
              have RU1 := Lib.hid ((RUc.out.below HB.out).more hszr)
              have B1 := Lib.hid (Bc.out.trans (HB.out.mono Bc.out.size))
              have HA1 := Lib.hid ((HAc.out.below HB.out).more hszr)
              have HX1 := Lib.hid ((HXc.out.below HB.out).more hszr)
              have HY1 := Lib.hid ((HYc.out.below HB.out).more hszr)
              have HE1 := Lib.hid (Rd.of_own HO.out)
              clear BU BRc RAc RUc Bc HAc HXc HYc HB HO hi hlt
              have b0 : v1.cell? ⟨g, 0, none⟩ = some (.slice R ms.length rc) := BU1.out.cell 0
              have b1 : v1.cell? ⟨g, 1, none⟩ = some (.slice A8 (rows.length + 1) c8) := BU1.out.cell 1
              go_wp2_with fail
              refine (kA A10 c10 _ RU1.out HX1.out HE1.out).mono ?_
              rintro e9 v2 ⟨A11, c11, rfl, ho2, hb2⟩
              have BU2 := Lib.hid (BU1.out.below hb2 BU1.out.lt)
              have BR2 := Lib.hid (BR1.out.below hb2 BR1.out.lt)
              have RA2 := Lib.hid ((RA1.out.below hb2).more hb2.size)
              have RU2 := Lib.hid ((RU1.out.below hb2).more hb2.size)
              have B2 := Lib.hid (B1.out.trans (hb2.mono B1.out.size))
              have HA2 := Lib.hid ((HA1.out.below hb2).more hb2.size)
              have HX2 := Lib.hid ((HX1.out.below hb2).more hb2.size)
              have HY2 := Lib.hid ((HY1.out.below hb2).more hb2.size)
              have HH2 := Lib.hid (Rd.of_own ho2)
              clear hb2 ho2 BU1 BR1 RA1 RU1 B1 HA1 HX1 HY1 HE1 b0 b1 kA
              have b0 : v2.cell? ⟨g, 0, none⟩ = some (.slice R ms.length rc) := BU2.out.cell 0
              have b1 : v2.cell? ⟨g, 1, none⟩ = some (.slice A8 (rows.length + 1) c8) := BU2.out.cell 1
              go_wp2_with fail
              refine (kB _ RU2.out HX2.out).mono ?_
              rintro e9 v3 ⟨A12, c12, rfl, ho3, hb3⟩
              have BR3 := Lib.hid (BR2.out.below hb3 BR2.out.lt)
              have RA3 := Lib.hid ((RA2.out.below hb3).more hb3.size)
              have B3 := Lib.hid (B2.out.trans (hb3.mono B2.out.size))
              have HA3 := Lib.hid ((HA2.out.below hb3).more hb3.size)
              have HX3 := Lib.hid ((HX2.out.below hb3).more hb3.size)
              have HY3 := Lib.hid ((HY2.out.below hb3).more hb3.size)
              have HH3 := Lib.hid ((HH2.out.below hb3).more hb3.size)
              have HR3 := Lib.hid (Rd.of_own ho3)
              clear hb3 ho3 BU2 BR2 RA2 RU2 B2 HA2 HX2 HY2 HH2 b0 b1 kB
              have kE := w_lawSame L2 A11 A12 c11 c12 25 v3 HLL2.out HH3.out HR3.out HLB2.out (by decide)
              go_wp2_with fail
              refine kE.mono ?_
              rintro e9 v4 ⟨rfl, hb4⟩
              have BR4 := Lib.hid (BR3.out.below hb4 BR3.out.lt)
              have RA4 := Lib.hid ((RA3.out.below hb4).more hb4.size)
              have B4 := Lib.hid (B3.out.trans (hb4.mono B3.out.size))
              have HA4 := Lib.hid ((HA3.out.below hb4).more hb4.size)
              have HX4 := Lib.hid ((HX3.out.below hb4).more hb4.size)
              have HY4 := Lib.hid ((HY3.out.below hb4).more hb4.size)
              clear hb4 kE BR3 RA3 B3 HA3 HX3 HY3 HH3 HR3 HLB2 HLL2
              have kF5 : ∀ W : World, BytesAt W W.heap.size A n → Calls Try.prog 7 #[.slice A n c, .int .i64 5] W (FreshPost W) := fun W h => w_fresh A n c 5 W h HN.out (by decide)
              go_wp2_with fail
              refine (kF5 _ HA4.out).mono ?_
              rintro e9 v5 ⟨A13, n13, c13, rfl, hby, hn13, hb5⟩
              have BR5 := Lib.hid (BR4.out.below hb5 BR4.out.lt)
              have RA5 := Lib.hid ((RA4.out.below hb5).more hb5.size)
              have B5 := Lib.hid (B4.out.trans (hb5.mono B4.out.size))
              have HX5 := Lib.hid ((HX4.out.below hb5).more hb5.size)
              have HY5 := Lib.hid ((HY4.out.below hb5).more hb5.size)
              have kM5 := w_makeRoom A13 n13 c13 v5 hby (by omega)
              clear hb5 hby kF5 BR4 RA4 B4 HA4 HX4 HY4
              go_wp2_with fail
              refine kM5.mono ?_
              rintro e9 v6 ⟨R', rc', ms', S', sd', rows', rfl, hom, hos, hor, hm4', hr4', hgm', hgr', hb6⟩
              have RV6 := Lib.hid (roomAt_own hom hos hor)
              have HGM' := Lib.hid hgm'
              have HGR' := Lib.hid hgr'
              have HGD' := Lib.hid (goodRows_good hgm' hgr' hm4' hr4')
              have BR6 := Lib.hid (BR5.out.below hb6 BR5.out.lt)
              have RA6 := Lib.hid ((RA5.out.below hb6).more hb6.size)
              have B6 := Lib.hid (B5.out.trans (hb6.mono B5.out.size))
              have HX6 := Lib.hid ((HX5.out.below hb6).more hb6.size)
              have HY6 := Lib.hid ((HY5.out.below hb6).more hb6.size)
              have r0 : v6.cell? ⟨w1.heap.size, 0, none⟩ = some (.slice R ms.length rc) := BR6.out.cell 0
              have r1 : v6.cell? ⟨w1.heap.size, 1, none⟩ = some (.slice S rows.length sd) := BR6.out.cell 1
              have hg6 : w1.heap.size < v6.heap.size := BR6.out.lt
              clear hom hos hor hgm' hgr' hb6 kM5 BR5 RA5 B5 HX5 HY5
              by_cases hz' : rows'.length = 0
              · have hr0 : rows' = [] := List.eq_nil_of_length_eq_zero hz'
                subst hr0
                have kN := fun (W : World) (h1 : RoomAt W W.heap.size R ms S rows) (h2 : RoomAt W W.heap.size R' ms' S' []) => w_shareNo ms ms' rows R S R' S' rc sd rc' sd' W h1 h2 HGD.out HGD'.out (by omega)
                have kZ := fun (W : World) => w_noRing s e (.slice A3 xs.length c3) 25 W (by omega)
                go_wp2_with fail
                refine (kN _ (RA6.out.allocM _) (RV6.out.allocM _)).mono ?_
                rintro e9 v7 ⟨rfl, hb7⟩
                have BV7 := Lib.hid ((Blk.new v6 47 #[Value.slice R' ms'.length rc', Value.slice S' 0 sd']).below hb7 (by simp))
                have B7 := Lib.hid ((B6.out.alloc B6.out.size _).trans (hb7.mono (by have := B6.out.size; simp; omega)))
                have q1 : v7.cell? ⟨v6.heap.size, 1, none⟩ = some (.slice S' 0 sd') := BV7.out.cell 1
                have hl7 : v6.heap.size < v7.heap.size := BV7.out.lt
                clear hb7 kN r0 r1
                go_wp2_with fail
                refine (kZ _).mono ?_
                rintro e9 v8 ⟨rfl, hb8⟩
                have BV8 := Lib.hid ((BV7.out.alloc (Obj.cells #[Value.slice none 0 0, Value.slice none 0 0] 47)).below hb8 (by simp; omega))
                have B8 := Lib.hid ((B7.out.alloc B7.out.size _).trans (hb8.mono (by have := B7.out.size; simp; omega)))
                have q2 : v8.cell? ⟨v6.heap.size, 1, none⟩ = some (.slice S' 0 sd') := BV8.out.cell 1
                clear hb8 kZ q1
                go_wp2
                go_ret
                exact ⟨rfl, B8.out⟩
              · have h0a : rows[0]? = some (rows[0]'(by omega)) := List.getElem?_eq_getElem (by omega)
                have h0b : rows'[0]? = some (rows'[0]'(by omega)) := List.getElem?_eq_getElem (by omega)
                have hma := List.mem_of_getElem? h0a
                have hmb := List.mem_of_getElem? h0b
                have dz : ((rows'.length : Int) == 0) = false := by rw [beq_eq_false_iff_ne]; omega
                generalize rows[0]'(by omega) = a0 at *
                generalize rows'[0]'(by omega) = b0 at *
                have HSG := Lib.hid (share_good HGM.out HGM'.out HGR.out HGR'.out hm4 hm4' hr4 hr4' hma hmb)
                have kN := fun (W : World) (h1 : RoomAt W W.heap.size R ms S rows) (h2 : RoomAt W W.heap.size R' ms' S' rows') => w_share ms ms' rows rows' a0 b0 R S R' S' rc sd rc' sd' W h1 h2 HGD.out HGD'.out h0a h0b HSG.out
                have hzi := forced_isZ (fun y hy => ((HGR'.out _ hmb).2 y hy).mono (by decide) : ∀ x ∈ b0.ws, Bd .f32 4 x)
                have hzl : (forcedL b0.ws 0).length = ms'.length := by rw [forced_len, (HGR'.out _ hmb).1]
                have HFI := Lib.hid (ring_share (xs := xs) HGM.out HGM'.out hm4 hm4' (HGR.out _ (List.getElem_mem hsl)).1 (HGR.out _ (List.getElem_mem hel)).1 hzl (HGR.out _ (List.getElem_mem hsl)).2 (HGR.out _ (List.getElem_mem hel)).2 hzi HXB.out)
                have hbs := share_bd (HGR.out _ (List.getElem_mem hsl)).2 hzi
                have hbe := share_bd (HGR.out _ (List.getElem_mem hel)).2 hzi
                have HBS := Lib.hid hbs
                have HBE := Lib.hid hbe
                clear h0a h0b hma hmb hzi hzl hbs hbe
                go_wp2_with fail
                refine (kN _ (RA6.out.allocM _) (RV6.out.allocM _)).mono ?_
                rintro e9 v7 ⟨A14, c14, S14, d14, rows14, rfl, hra7, hwss, hb7⟩
                obtain ⟨hs14, hgs⟩ := share_ws hwss hsl
                obtain ⟨he14, hge⟩ := share_ws hwss hel
                have BV7 := Lib.hid ((Blk.new v6 47 #[Value.slice R' ms'.length rc', Value.slice S' rows'.length sd']).below hb7 (by simp))
                have hb7' := ((Below.refl v6.heap.size v6).alloc (Nat.le_refl _) (Obj.cells #[Value.slice R' ms'.length rc', Value.slice S' rows'.length sd'] 47)).trans (hb7.mono (by simp))
                have B7 := Lib.hid (B6.out.trans (hb7'.mono B6.out.size))
                have HX7 := Lib.hid ((HX6.out.below hb7').more hb7'.size)
                have HY7 := Lib.hid ((HY6.out.below hb7').more hb7'.size)
                have RS7 := Lib.hid hra7
                have q1 : v7.cell? ⟨v6.heap.size, 1, none⟩ = some (.slice S' rows'.length sd') := BV7.out.cell 1
                have hl7 : v6.heap.size < v7.heap.size := BV7.out.lt
                have kR14 : ∀ W : World, RoomAt W W.heap.size A14 (ms ++ ms') S14 rows14 → Rd W W.heap.size 1 A3 xs.length (xs.map flV) → Calls Try.prog 16 #[.agg #[.slice A14 (ms ++ ms').length c14, .slice S14 rows14.length d14], .int .i64 s, .int .i64 e, .slice A3 xs.length c3, .int .i64 25] W (RingPost (scaledMs (ms ++ ms') (prodL (rows[s].ws ++ forcedL b0.ws 0) (rows[e].ws ++ forcedL b0.ws 0))) xs 25 W) := fun W h h' => by
                  have h9 := w_ringRoom (ms ++ ms') rows14 xs A14 S14 A3 c14 d14 c3 s e 25 W h (HSG.out _ hwss) h' HXB.out (by omega) (by decide) hs14 he14 (by rw [hgs]; exact HBS.out) (by rw [hge]; exact HBE.out)
                  rw [hgs, hge] at h9
                  exact h9
                have HLZ : Hid ((ringL (scaledMs (ms ++ ms') (prodL (rows[s].ws ++ forcedL b0.ws 0) (rows[e].ws ++ forcedL b0.ws 0))) xs 25).length = 25) := Lib.hid (ringL_length _ _ _)
                clear hb7 hb7' hra7 kN hwss hgs hge hs14 he14 r0 r1 HBS HBE HSG
                rw [HL.out] at HFI
                unfold RingPost at kR14
                generalize ringL (scaledMs (ms ++ ms') (prodL (rows[s].ws ++ forcedL b0.ws 0) (rows[e].ws ++ forcedL b0.ws 0))) xs 25 = Z at *
                generalize hlen : (ms ++ ms').length = nn at *
                generalize rows14.length = rn at *
                go_wp2_with fail
                refine (kR14 _ (RS7.out.allocM _) (HX7.out.allocM _)).mono ?_
                rintro e9 v8 ⟨A15, c15, rfl, ho8, hb8⟩
                have BV8 := Lib.hid ((BV7.out.alloc (Obj.cells #[Value.slice A14 nn c14, Value.slice S14 rn d14] 47)).below hb8 (by simp; omega))
                have B8 := Lib.hid ((B7.out.alloc B7.out.size _).trans (hb8.mono (by have := B7.out.size; simp; omega)))
                have HY8 := Lib.hid (((HY7.out.allocM (Obj.cells #[Value.slice A14 nn c14, Value.slice S14 rn d14] 47)).below hb8).more hb8.size)
                have HZ8 := Lib.hid (Rd.of_own ho8)
                have q2 : v8.cell? ⟨v6.heap.size, 1, none⟩ = some (.slice S' rows'.length sd') := BV8.out.cell 1
                clear hb8 kR14 ho8 q1
                have kQ := w_equal Z L A15 A6 c15 c6 25 v8 HLZ.out HLL.out HZ8.out HY8.out (fun i h h' => HFI.out i h h') (by decide)
                go_wp2_with fail
                refine kQ.mono ?_
                rintro e9 v9 ⟨rfl, hb9⟩
                have B9' := Lib.hid (B8.out.trans (hb9.mono B8.out.size))
                clear hb9 kQ
                go_wp2
                go_ret
                exact ⟨rfl, B9'.out⟩


end Go.Proofs.Ytfkbbicacgeiiaa
