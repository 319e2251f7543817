/- FnExactMateNewWorld: the plain law. -/
import Derived.Test.YtojihfiloldkgaaE12
import Derived.Test.YtojihfiloldkgaaA12
namespace Go.Proofs.Ytojihfiloldkgaa
open Go
set_option linter.unusedSimpArgs false
set_option maxRecDepth 100000

theorem zeroW_small : Wld.zero.small := ⟨⟨by simp [Wld.zero, Land.zero], by simp [Wld.zero, Land.zero], by simp [Wld.zero, Land.zero]⟩, by simp [Wld.zero], by simp [Wld.zero], by simp [Wld.zero]⟩

theorem markMatesK_new : ∀ (l : List T) (k : Int), markMatesK (l.map mate0) k = k + 5 * l.length
  | [], k => by simp [markMatesK]
  | n :: r, k => by
    simp only [List.map_cons, markMatesK, markMatesK_new r]
    simp [markMateK, mate0]
    omega

theorem newWorld_small {l : List T} (hl : l.length ≤ 1048576) : (newWorld l).small ∧ markWldK (newWorld l) 1 ≤ 100000000 := by
  unfold newWorld
  split
  · refine ⟨world0_small hl, ?_⟩
    simp [markWldK, world0, markMatesK_new, markLandK, Land.zero, markPlaceK]
    omega
  · exact ⟨zeroW_small, by simp [markWldK, Wld.zero, markMatesK, markLandK, Land.zero, markPlaceK]⟩

theorem newWorld_law (l : List T) (hw : ListWf (fun s : T => s.size ≤ maxLen) l) : F 175 [.sl .bor 1 (l.map fun s => [.str s])] [] = some (.bool true, []) := by
  have hL : maxLen = 9223372036854775807 := rfl
  have h1 := law55 l 1048576 (by have := hw.len; omega) (by omega) (by omega)
  refine F_run fn175 rfl ?_
  rcases Int.lt_or_le (szTexts l 1048576) 0 with h2 | h2
  · have h' : ¬ (0 ≤ szTexts l 1048576) := by omega
    simp [c175, h1, h2, h']
  have hs := (szTexts_le hw (by omega) (by omega) h2).2
  have h' : ¬ (szTexts l 1048576 < 0) := by omega
  obtain ⟨hg, hg2⟩ := newWorld_small hs
  have w1 := law49 l hs
  have w2 := law53 l (by unfold big; omega)
  have w3 := law50 l hs
  have w4 := law54 l hs
  generalize newWorld l = g at *
  have w5 := law48 .own .own g hg
  have w6 := law52 l 1 (by omega) hs (by omega)
  have w7 := law51 g 1 hg (by omega) (by omega)
  have w8 := law47 g 1 hg (by omega) (by omega)
  have b1 := le_markLandK g.land 1
  have b2 := le_markMatesK g.mates (markLandK g.land 1)
  have b3 : 0 ≤ markWldK g 1 := by unfold markWldK; omega
  have n1 : ¬ (1 + (l.length : Int) < 0) := by omega
  have n2 : ¬ (markWldK g 1 < 0) := by omega
  simp only [Wld.c] at w3 w4 w5
  simp only [Wld.refs, Wld.arrs, List.map_cons, List.map_nil] at w7
  generalize hml : markWld g 1 = gm at w7 w8
  simp only [Wld.c] at w8
  have hx : gm.land.time = g.land.time := by subst hml; rfl
  rw [hx] at w8
  simp [c175, h1, h2, h', w1, w2, w3, w4, w5, w6, w7, w8, n1, n2]
end Go.Proofs.Ytojihfiloldkgaa
