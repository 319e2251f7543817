/- FnExactMateValid: the plain law. -/
import Derived.Test.YteimndhhllfdnaaE6
namespace Go.Proofs.Yteimndhhllfdnaa
open Go
set_option linter.unusedSimpArgs false
set_option maxRecDepth 100000

theorem valid_law (m : Mate) (hw : m.wf) : F 170 [.agg (m.c .bor)] [] = some (.bool true, []) := by
  obtain ⟨r, h1, h2⟩ := law30 m 1048576 hw (by omega) (by omega)
  refine F_run fn170 rfl ?_
  simp only [Mate.c] at h1
  rcases h2 with h2 | ⟨h2, _, hs⟩
  · have h' : ¬ (0 ≤ r) := by omega
    simp [c170, h1, h2, h']
  · have h' : ¬ (r < 0) := by omega
    have w1 := law26 m hs
    have w2 := law27 m hs
    have w3 := law28 m hs
    have w4 := law29 m hs
    simp only [Mate.c] at w1 w2 w3 w4
    simp [c170, h1, h2, h', w1, w2, w3, w4]
end Go.Proofs.Yteimndhhllfdnaa
