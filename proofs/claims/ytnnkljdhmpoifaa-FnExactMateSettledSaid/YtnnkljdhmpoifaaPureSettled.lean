/- FnExactMateSettled: the plain law. -/
import Derived.Test.YtnnkljdhmpoifaaE9
import Derived.Test.YtnnkljdhmpoifaaA10
namespace Go.Proofs.Ytnnkljdhmpoifaa
open Go
set_option linter.unusedSimpArgs false
set_option maxRecDepth 100000

theorem settled_law (w : Wld) (hw : w.wf) : F 179 [.agg (w.c .bor .bor)] [] = some (.bool true, []) := by
  obtain ⟨r, h1, h2⟩ := law59 w 1048576 hw (by omega) (by omega)
  refine F_run fn179 rfl ?_
  simp only [Wld.c] at h1
  rcases h2 with h2 | ⟨h2, _, hs⟩
  · have h' : ¬ (0 ≤ r) := by omega
    simp [c179, h1, h2, h']
  · have h' : ¬ (r < 0) := by omega
    have w1 := law56 .bor w hs
    have w2 := law48 .own .own w hs
    have w3 := law68 w .own hs
    have w4 := law69 w .own hs
    simp only [Wld.c] at w1 w2 w3 w4
    simp [c179, h1, h2, h', w1, w2, w3, w4]
end Go.Proofs.Ytnnkljdhmpoifaa
