/- FnExactMateRunsOk: the plain law. -/
import Derived.Test.YtahgeececclhdaaE2
import Derived.Test.YtahgeececclhdaaA2
import Derived.Test.YtahgeececclhdaaReadT
namespace Go.Proofs.Ytahgeececclhdaa
open Go
set_option linter.unusedSimpArgs false
set_option maxRecDepth 100000

theorem runsOk_law (rs : List Run) (hw : ListWf Run.wf rs) (c : Int) (_ : I64 c) : F 166 [.sl .bor 11 (rs.map Run.c), .int .i64 c] [] = some (.bool true, []) := by
  refine F_run fn166 rfl ?_
  have hl : rs.length ≤ 9223372036854775807 := by have := hw.len; unfold maxLen at this; omega
  have h1 := law13 rs 1048576 hl (by omega) (by omega)
  rcases Int.lt_or_le (szRuns rs 1048576) 0 with h | h
  · have h' : ¬ (0 ≤ szRuns rs 1048576) := by omega
    simp [c166, h1, h, h']
  · have h' : ¬ (szRuns rs 1048576 < 0) := by omega
    have hn : rs.length ≤ 1048576 := szRuns_len h hl (by omega) (by omega)
    have hb : rs.length < big := by unfold big; omega
    simp [c166, h1, h, h', law9 rs hn, law11 rs c hb, law12 rs c hb, law10 rs hb]
end Go.Proofs.Ytahgeececclhdaa
