/- FnExactMateLandOk: the plain law. -/
import Derived.Test.YtkgmknclfpcjcaaE8
namespace Go.Proofs.Ytkgmknclfpcjcaa
open Go
set_option linter.unusedSimpArgs false
set_option maxRecDepth 100000

theorem landOk_law (l : Land) (hw : l.wf) : F 169 [.agg (l.c .bor .bor)] [] = some (.bool true, []) := by
  obtain ⟨r, h1, h2⟩ := law25 l 1048576 hw (by omega) (by omega)
  refine F_run fn169 rfl ?_
  simp only [Land.c] at h1
  rcases h2 with h2 | ⟨h2, _, hs⟩
  · have h' : ¬ (0 ≤ r) := by omega
    simp [c169, h1, h2, h']
  · have h' : ¬ (r < 0) := by omega
    have w1 := law21 .bor l hs
    have w2 := law22 .own .own l hs
    have w3 := law23 l .own hs
    have w4 := law24 l .own hs
    simp only [Land.c] at w1 w2 w3 w4
    simp [c169, h1, h2, h', w1, w2, w3, w4]
end Go.Proofs.Ytkgmknclfpcjcaa
