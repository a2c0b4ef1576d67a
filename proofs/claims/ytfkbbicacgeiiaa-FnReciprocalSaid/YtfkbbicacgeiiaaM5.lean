/- The plain law of shared rooms. -/
import Derived.Test.YtfkbbicacgeiiaaM4
import Derived.Test.YtfkbbicacgeiiaaG8
namespace Go.Proofs.Ytfkbbicacgeiiaa
open Go.RowKit

theorem share_ws {R rows rows' : List RowD} {f g : RowD → List Nat} (h : R.map RowD.ws = rows.map f ++ rows'.map g) {s : Nat} (hs : s < rows.length) : ∃ hs' : s < R.length, R[s].ws = f rows[s] := by
  have h2 := congrArg (fun l => l[s]?) h
  simp only [List.getElem?_map] at h2
  rw [List.getElem?_append_left (by simpa using hs), List.getElem?_map, List.getElem?_eq_getElem hs] at h2
  simp only [Option.map_some, Option.map_eq_some_iff] at h2
  obtain ⟨r, hr, he⟩ := h2
  obtain ⟨hs', hr'⟩ := List.getElem?_eq_some_iff.1 hr
  exact ⟨hs', by rw [hr', he]⟩

theorem forced_len (ws : List Nat) (x : Nat) : (forcedL ws x).length = ws.length := by simp [forcedL]

theorem share_good {ms ms' : List Md} {rows rows' : List RowD} {a0 b0 : RowD} (hm : ∀ m ∈ ms, GoodMd m) (hm' : ∀ m ∈ ms', GoodMd m) (hr : GoodRows ms.length rows) (hr' : GoodRows ms'.length rows')
    (h1 : ms.length ≤ 4) (h2 : ms'.length ≤ 4) (h3 : rows.length ≤ 4) (h4 : rows'.length ≤ 4) (ha : a0 ∈ rows) (hb : b0 ∈ rows') (R : List RowD)
    (h : R.map RowD.ws = rows.map (fun r => r.ws ++ forcedL b0.ws 0) ++ rows'.map (fun r => forcedL a0.ws 0 ++ r.ws)) : RoomGood (ms ++ ms') R := by
  refine ⟨fun m hmm => ?_, fun r hrr => ?_, by simp; omega, ?_⟩
  · rcases List.mem_append.1 hmm with h | h
    · exact hm m h
    · exact hm' m h
  · have hin : r.ws ∈ R.map RowD.ws := List.mem_map_of_mem hrr
    rw [h, List.mem_append] at hin
    have zb : ∀ x ∈ forcedL b0.ws 0, Bd .f32 4 x := fun x hx => (forced_isZ (fun y hy => ((hr' _ hb).2 y hy).mono (by decide)) x hx).bd 4
    have za : ∀ x ∈ forcedL a0.ws 0, Bd .f32 4 x := fun x hx => (forced_isZ (fun y hy => ((hr _ ha).2 y hy).mono (by decide)) x hx).bd 4
    rcases hin with hin | hin
    · obtain ⟨q, hq, he⟩ := List.mem_map.1 hin
      rw [← he]
      refine ⟨by rw [List.length_append, forced_len, List.length_append, (hr _ hq).1, (hr' _ hb).1], fun x hx => ?_⟩
      rcases List.mem_append.1 hx with hx | hx
      · exact ((hr _ hq).2 x hx).mono (by decide)
      · exact zb x hx
    · obtain ⟨q, hq, he⟩ := List.mem_map.1 hin
      rw [← he]
      refine ⟨by rw [List.length_append, forced_len, List.length_append, (hr' _ hq).1, (hr _ ha).1], fun x hx => ?_⟩
      rcases List.mem_append.1 hx with hx | hx
      · exact za x hx
      · exact ((hr' _ hq).2 x hx).mono (by decide)
  · have := congrArg List.length h
    simp at this
    omega

theorem share_bd {ws zs : List Nat} (h : ∀ x ∈ ws, Bd .f32 0 x) (hz : ∀ x ∈ zs, isZ .f32 x) : ∀ x ∈ ws ++ zs, Bd .f32 0 x := fun x hx => by
  rcases List.mem_append.1 hx with hx | hx
  · exact h x hx
  · exact (hz x hx).bd 0

theorem ring_at {ms : List Md} {xs : List Nat} {n i : Nat} (h : i < (ringL ms xs n).length) : (ringL ms xs n)[i] = outAt ms xs i := by simp [ringL]

/-- behind a shut door the room rings as it did, in equal numbers -/
theorem ring_share {ms ms' : List Md} {xs ws we zb : List Nat} (hm : ∀ m ∈ ms, GoodMd m) (hm' : ∀ m ∈ ms', GoodMd m) (h1 : ms.length ≤ 4) (h2 : ms'.length ≤ 4) (hls : ws.length = ms.length) (hle : we.length = ms.length) (hlz : zb.length = ms'.length)
    (hws : ∀ x ∈ ws, Bd .f32 0 x) (hwe : ∀ x ∈ we, Bd .f32 0 x) (hz : ∀ x ∈ zb, isZ .f32 x) (hx : ∀ x ∈ xs, Bd .f32 2 x) :
    ∀ (i : Nat) (h : i < (ringL (scaledMs (ms ++ ms') (prodL (ws ++ zb) (we ++ zb))) xs 25).length) (h' : i < (ringL (scaledMs ms (prodL ws we)) xs 25).length),
      FloatKind.f32.format.order ((ringL (scaledMs (ms ++ ms') (prodL (ws ++ zb) (we ++ zb))) xs 25)[i]'h) ((ringL (scaledMs ms (prodL ws we)) xs 25)[i]'h') = some .eq := by
  have e : scaledMs (ms ++ ms') (prodL (ws ++ zb) (we ++ zb)) = scaledMs ms (prodL ws we) ++ scaledMs ms' (prodL zb zb) := by
    rw [prodL_append (by rw [hls, hle]), scaled_append (by rw [prodL_length hls hle])]
  intro i h h'
  have hi : i < 25 := by rw [ringL_length] at h; exact h
  have hzz := prodL_isZ hz hz
  have hmu := scaled_mute hm' hzz
  have hg1 := scaled_good hm (prodL_bd hws hwe)
  have hg2 := scaled_good hm' (fun x hx => (hzz x hx).bd 0)
  have hall : ∀ m ∈ scaledMs ms (prodL ws we) ++ scaledMs ms' (prodL zb zb), PoleGain m := fun m hmm => by
    rcases List.mem_append.1 hmm with h | h
    · exact (hg1 m h).pg
    · exact (hg2 m h).pg
  have r := ring_mute hall hmu hx (by rw [List.length_append, scaledMs_length (prodL_length hls hle), scaledMs_length (prodL_length hlz hlz)]; omega) i hi
  rw [ring_at h, ring_at h', e]
  exact ZEq.order r.2 r.1

end Go.Proofs.Ytfkbbicacgeiiaa
