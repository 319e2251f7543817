/- FnExactMateLandTick: the plain law. -/
import Derived.Test.YtdkjfpkfjkfpbaaE11
import Derived.Test.YtdkjfpkfjkfpbaaA11
namespace Go.Proofs.Ytdkjfpkfjkfpbaa
open Go
set_option linter.unusedSimpArgs false
set_option maxRecDepth 100000

theorem zeroLand_small : Land.zero.small := ⟨by simp [Land.zero], by simp [Land.zero], by simp [Land.zero]⟩

theorem landOk_places {l : Land} (h : landOk l = true) : l.places.length ≤ 4 := by
  unfold landOk at h
  simp only [Bool.and_eq_true, decide_eq_true_eq] at h
  omega

theorem landTick_small {l : Land} (h : l.small) : (landTick l).1.small ∧ (landTick l).1.places.length ≤ 4 ∧ (landTick l).2.length ≤ 4 ∧ ∀ p ∈ (landTick l).2, p.small := by
  unfold landTick
  split
  · rename_i hv
    have h4 := landOk_places hv
    split
    · exact ⟨h, h4, by simp, by simp⟩
    · refine ⟨⟨h.grants, h.places, h.each⟩, h4, by simpa using h4, fun p hp => ?_⟩
      obtain ⟨q, hq, rfl⟩ := List.mem_map.1 hp
      exact ⟨(h.each q hq).wants⟩
  · exact ⟨zeroLand_small, by simp [Land.zero], by simp, by simp⟩

theorem landTick_law (l : Land) (hw : l.wf) : F 172 [.agg (l.c .bor .bor)] [] = some (.bool true, []) := by
  obtain ⟨r, h1, h2⟩ := law25 l 1048576 hw (by omega) (by omega)
  refine F_run fn172 rfl ?_
  simp only [Land.c] at h1
  rcases h2 with h2 | ⟨h2, h3, hs⟩
  · have h' : ¬ (0 ≤ r) := by omega
    simp [c172, h1, h2, h']
  have h' : ¬ (r < 0) := by omega
  obtain ⟨hg, hg4, hp1, hp2⟩ := landTick_small hs
  have w1 := law21 .bor l hs
  have w2 := law22 .own .own l hs
  have w3 := law41 l .own hs
  have w4 := law44 l .own hs
  generalize (landTick l).1 = g at *
  generalize (landTick l).2 = ps at *
  have w5 := law22 .own .own g hg
  have w6 := law40 .own .own ps (by unfold big; omega) hp2
  have b1 := markLandK_le (k := 1) hs
  have b2 := le_markLandK l 1
  have b3 := markPlaceK_le g.places (1 + 5 * g.grants.length) hg.each
  have b4 := le_markLandK g 1
  have b0 := hg.grants
  have b7 : markLandK g 1 ≤ 1000000000 := by unfold markLandK; omega
  have b5 := markParcelK_le ps (markLandK g 1) hp2
  have b6 := le_markParcelK ps (markLandK g 1)
  have w7 := law43 l 1 hs (by omega) (by omega)
  have w8 := law43 g 1 hg (by omega) (by omega)
  have w9 := law39 g 1 hg (by omega) (by omega)
  have w10 := law42 ps (markLandK g 1) (by omega) (by omega) hp2 (by omega)
  have w11 := law38 ps (markLandK g 1) (by omega) (by omega) hp2 (by omega)
  have n1 : ¬ (markLandK l 1 < 0) := by omega
  have n2 : ¬ (markLandK g 1 < 0) := by omega
  have n3 : ¬ (markParcelK ps (markLandK g 1) < 0) := by omega
  simp only [Land.c] at w1 w2 w3 w4 w5
  simp only [Land.refs, Land.arrs, List.map_cons, List.map_nil] at w7 w8
  generalize hml : markLand g 1 = gm at w8 w9
  simp only [Land.c] at w9
  have hx : gm.time = g.time := by subst hml; rfl
  rw [hx] at w9
  simp [c172, h1, h2, h', w1, w2, w3, w4, w5, w6, w7, w8, w9, w10, w11, n1, n2, n3]
end Go.Proofs.Ytdkjfpkfjkfpbaa
