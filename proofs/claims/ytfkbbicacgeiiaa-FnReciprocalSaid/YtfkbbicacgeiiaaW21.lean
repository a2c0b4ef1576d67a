/- The law's walk: what it needs. -/
import Derived.Test.YtfkbbicacgeiiaaW20
import Derived.Test.YtfkbbicacgeiiaaW19
import Derived.Test.YtfkbbicacgeiiaaG9
namespace Go.Proofs.Ytfkbbicacgeiiaa
open Go.RowKit

/-- a byte of the code, in every world that has only drawn since -/
theorem w_atV (A : Option Addr) (n c : Nat) (i : Nat) (w : World) (hb : BytesAt w w.heap.size A n) (hn : n ≤ 1048576) (hi : i ≤ 1000000) :
    ∃ x : Int, 0 ≤ x ∧ x ≤ 255 ∧ ∀ q : Nat, Calls Try.prog 8 #[.slice A n c, .int .i64 i] (w.drewN q) fun e w' => e = .returned (.int .i64 x) ∧ w.drewN q = w' := by
  by_cases h1 : (i : Int) < n
  · obtain ⟨ad, rfl, hb', hcell⟩ := hb (by omega)
    obtain ⟨u, hu0, hu1, hu⟩ := hcell i (by omega)
    refine ⟨u, hu0, hu1, fun q => ?_⟩
    clear hcell hb
    go_enter Try.func8, Try.ntmps8
    go_wp2
    go_ret
    exact ⟨rfl, rfl⟩
  · clear hb
    refine ⟨((i : Int) * 37 + (n : Int) * 11) % 256, by omega, by omega, fun q => ?_⟩
    go_enter Try.func8, Try.ntmps8
    go_wp2
    go_ret
    exact ⟨rfl, rfl⟩

theorem below_block_lt {w : World} {a : Addr} {u : Value} (h : w.cell? a = some u) : a.block < w.heap.size := by
  by_cases hlt : a.block < w.heap.size
  · exact hlt
  · have h0 : w.heap[a.block]? = none := by simp; omega
    simp [World.cell?, h0] at h

theorem rem_place {x : Int} {n : Nat} (h0 : 0 ≤ x) (hn : 0 < n) : ∃ s : Nat, Int.tmod x n = s ∧ s < n := by
  refine ⟨(Int.tmod x n).toNat, ?_, ?_⟩
  · have := Int.tmod_nonneg (n : Int) h0
    omega
  · have h1 := Int.tmod_nonneg (n : Int) h0
    have h2 := Int.tmod_lt_of_pos x (show (0 : Int) < n by omega)
    omega

theorem reads_blk {w : World} {g size n : Nat} {t : TypeId} {cs : Array Value} (h : Blk w g t cs) (hs : cs.size = n * size) : Reads w (g + 1) size (some ⟨g, 0, none⟩) n cs.toList :=
  ⟨by simpa using hs, fun _ => ⟨_, rfl, Nat.lt_succ_self g, fun j u hu => by
    rw [add_spot, Nat.zero_add, h.cell j]
    simpa using hu⟩⟩

theorem goodRows_good {ms : List Md} {rows : List RowD} (hm : ∀ m ∈ ms, GoodMd m) (hr : GoodRows ms.length rows) (h1 : ms.length ≤ 4) (h2 : rows.length ≤ 4) : RoomGood ms rows :=
  ⟨hm, fun r h => ⟨(hr r h).1, fun x hx => ((hr r h).2 x hx).mono (by decide)⟩, by omega, by omega⟩

end Go.Proofs.Ytfkbbicacgeiiaa
