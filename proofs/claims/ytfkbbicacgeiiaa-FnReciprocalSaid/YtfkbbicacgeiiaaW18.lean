/- Walks: two rooms that share their modes: the parts. -/
import Derived.Test.YtfkbbicacgeiiaaW17
namespace Go.Proofs.Ytfkbbicacgeiiaa
open Go.RowKit

theorem w_forced' (xs : List Nat) (n x : Nat) (A : Option Addr) (c : Nat) (w : World) (hl : xs.length = n) (hr : Rd w w.heap.size 1 A n (xs.map flV)) (hx : ∀ y ∈ xs, floatBits .mul .f32 y x = some (fb .mul .f32 y x)) (hn : n ≤ 1000) :
    Calls Try.prog 43 #[.slice A n c, .float .f32 x] w fun e w' =>
      ∃ A c, e = .returned (.slice A n c) ∧ w'.ownsRow w.heap.size 34 1 (.slice A n c) n ((forcedL xs x).map flV) ∧ Below w.heap.size w w' := by
  subst hl
  exact w_forced xs x A c w hr hx hn

theorem flV_one (xs : List Nat) : ∀ u ∈ xs.map flV, u.oneCell' = true := by
  intro u hu
  simp at hu
  obtain ⟨x, _, rfl⟩ := hu
  rfl

theorem w_catF (xs ys : List Nat) (n m : Nat) (A1 A2 : Option Addr) (c1 c2 c : Nat) (g : Nat) (w : World) (hg : Blk w g 27 #[.slice A1 n c1, .slice A2 m c2])
    (hx : Rd w w.heap.size 1 A1 n (xs.map flV)) (hy : Rd w w.heap.size 1 A2 m (ys.map flV)) (hn : n ≤ 10000) (hm : m ≤ 10000) :
    Calls Try.prog 42 #[.slice (some ⟨g, 0, none⟩) 2 c] w fun e w' =>
      ∃ A c, e = .returned (.slice A (n + m) c) ∧ w'.ownsRow w.heap.size 34 1 (.slice A (n + m) c) (n + m) ((xs ++ ys).map flV) ∧ Below w.heap.size w w' := by
  rw [List.map_append]
  exact w_concatF (xs.map flV) (ys.map flV) n m A1 A2 c1 c2 g c w hg hx hy (flV_one xs) (flV_one ys) hn hm

theorem mdCells_append (xs ys : List Md) : mdCells (xs ++ ys) = mdCells xs ++ mdCells ys := by simp [mdCells]

theorem roomAt_own {w : World} {base : Nat} {A S : Option Addr} {c d : Nat} {ms : List Md} {rows : List RowD} (hm : w.ownsRow base 39 2 (.slice A ms.length c) ms.length (mdCells ms))
    (hs : w.ownsRow base 27 1 (.slice S rows.length d) rows.length (rows.map rowV)) (hr : OwnRows w base rows) : RoomAt w w.heap.size A ms S rows :=
  ⟨Rd.of_own hm, Rd.of_own hs, fun r h => Rd.of_own (hr r h)⟩

/-- what two rooms share: the new rows -/
def SharePost (ms : List Md) (wss : List (List Nat)) (w : World) (e : Ending) (w' : World) : Prop :=
  ∃ A c S d rows, e = .returned (.tuple #[.agg #[.slice A ms.length c, .slice S rows.length d], .bool true]) ∧ RoomAt w' w'.heap.size A ms S rows ∧ rows.map RowD.ws = wss ∧ Below w.heap.size w w'

def Share (w : World) (bo nn : Nat) (v0 v1 u0 u1 AM : Value) (cells : List Value) (wss : List (List Nat)) (i : Nat) (wx : World) : Prop :=
  ∃ (S : Option Addr) (d : Nat) (rows : List RowD), Blk wx bo 47 #[AM, .slice S i d] ∧ wx.ownsRow w.heap.size 27 1 (.slice S i d) i (rows.map rowV) ∧ OwnRows wx w.heap.size rows ∧ rows.map RowD.ws = wss ∧
    Blk wx w.heap.size 47 #[v0, v1] ∧ Blk wx (w.heap.size + 1) 47 #[u0, u1] ∧ Blk wx (w.heap.size + 2) 47 #[.slice none 0 0, .slice none 0 0] ∧
    wx.ownsRow w.heap.size 39 2 AM nn cells ∧ Below w.heap.size w wx

theorem share_next {w wr w5 w7 : World} {bo nn : Nat} {v0 v1 u0 u1 AM : Value} {cells : List Value} {wss : List (List Nat)} {i d9 c5 c7 k : Nat} {S9 A5 A7 : Option Addr} {rows : List RowD} {ws : List Nat}
    (hbo : Blk wr bo 47 #[AM, .slice S9 i d9]) (hos : wr.ownsRow w.heap.size 27 1 (.slice S9 i d9) i (rows.map rowV)) (hor : OwnRows wr w.heap.size rows) (hw : rows.map RowD.ws = wss)
    (hz0 : Blk wr w.heap.size 47 #[v0, v1]) (hz1 : Blk wr (w.heap.size + 1) 47 #[u0, u1]) (hz2 : Blk wr (w.heap.size + 2) 47 #[.slice none 0 0, .slice none 0 0])
    (hom : wr.ownsRow w.heap.size 39 2 AM nn cells) (hbl : Below w.heap.size w wr) (hb0 : w.heap.size + 2 < bo) (H5 : Below wr.heap.size wr w5) (hk : ws.length = k)
    (o5 : w5.ownsRow w.heap.size 34 1 (.slice A5 k c5) k (ws.map flV)) (hown7 : w7.ownsRow w.heap.size 27 1 (.slice A7 (i + 1) c7) (i + 1) (rows.map rowV ++ #[Value.slice A5 k c5].toList))
    (hgr7 : (w5.alloc (Obj.cells #[Value.slice A5 k c5] 27)).grownBy w7 (Value.slice S9 i d9).ownBlock) :
    Share w bo nn v0 v1 u0 u1 AM cells (wss ++ [ws]) (i + 1) (w7.setCell ⟨bo, 1, none⟩ (.slice A7 (i + 1) c7)) := by
  subst hk
  have hsz : w.heap.size ≤ wr.heap.size := hbl.size
  have hs5 : wr.heap.size ≤ w5.heap.size := H5.size
  have S5 := (own_below hos H5).alloc (Obj.cells #[Value.slice A5 ws.length c5] 27)
  have blk : ∀ (g : Nat) (cs : Array Value), Blk wr g 47 cs → Blk w7 g 47 cs := fun g cs h =>
    ((h.below H5 h.lt).alloc (Obj.cells #[Value.slice A5 ws.length c5] 27)).grown hgr7 (Ne.symm (own_blk_ne S5 ((h.below H5 h.lt).alloc _) (by decide)))
  have BO7 := blk _ _ hbo
  have hnew : w5.ownsRow w.heap.size 34 1 (rowV ⟨A5, c5, ws⟩) ws.length (ws.map flV) := o5
  have OR5 := (OwnRows.below hor H5).snoc (r := ⟨A5, c5, ws⟩) hnew
  have OR7 := (OR5.alloc (Obj.cells #[Value.slice A5 ws.length c5] 27)).other S5 (by decide) hgr7
  have OM5 := (own_below hom H5).alloc (Obj.cells #[Value.slice A5 ws.length c5] 27)
  have OM7 := OM5.kept hgr7 (own_ne OM5 S5 (by decide))
  refine ⟨A7, c7, rows ++ [⟨A5, c5, ws⟩], BO7.set_ 1 _, ?_, OR7.set BO7 (by decide) 1 _, by simp [hw], (blk _ _ hz0).far (show w.heap.size ≠ bo by omega) _, (blk _ _ hz1).far (show w.heap.size + 1 ≠ bo by omega) _, (blk _ _ hz2).far (show w.heap.size + 2 ≠ bo by omega) _,
    own_set OM7 (own_blk_ne OM7 BO7 (by decide)) _, (((hbl.trans (H5.mono hsz)).alloc (by omega) _).grown hgr7 (by simp; omega) (own_base S5)).setCell (show w.heap.size ≤ bo by omega) _⟩
  have h := own_set hown7 (own_blk_ne hown7 BO7 (by decide)) (.slice A7 (i + 1) c7) (p := ⟨bo, 1, none⟩)
  rw [List.map_append]
  exact h

def ShareLoop (w : World) (bo nn : Nat) (v0 v1 u0 u1 AM : Value) (cells : List Value) (wss : Nat → List (List Nat)) (k off : Nat) (s : Value) (wx : World) : Prop :=
  ∃ i : Nat, s = .int .i64 i ∧ i ≤ k ∧ Share w bo nn v0 v1 u0 u1 AM cells (wss i) (off + i) wx

end Go.Proofs.Ytfkbbicacgeiiaa
