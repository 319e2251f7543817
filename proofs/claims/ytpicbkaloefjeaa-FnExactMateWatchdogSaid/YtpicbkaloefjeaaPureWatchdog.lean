/- FnExactMateWatchdog: the plain law. -/
import Derived.Test.YtpicbkaloefjeaaE4
import Derived.Test.YtpicbkaloefjeaaA3
import Derived.Test.YtpicbkaloefjeaaReadT
namespace Go.Proofs.Ytpicbkaloefjeaa
open Go
set_option linter.unusedSimpArgs false
set_option maxRecDepth 100000

theorem watchdog_law (rs : List Run) (hw : ListWf Run.wf rs) (c : Int) (_ : I64 c) : F 168 [.sl .bor 11 (rs.map Run.c), .int .i64 c] [] = some (.bool true, []) := by
  refine F_run fn168 rfl ?_
  have hl : rs.length ≤ 9223372036854775807 := by have := hw.len; unfold maxLen at this; omega
  have h1 := law13 rs 1048576 hl (by omega) (by omega)
  rcases Int.lt_or_le (szRuns rs 1048576) 0 with h | h
  · have h' : ¬ (0 ≤ szRuns rs 1048576) := by omega
    simp [c168, h1, h, h']
  · have h' : ¬ (szRuns rs 1048576 < 0) := by omega
    have hn : rs.length ≤ 1048576 := szRuns_len h hl (by omega) (by omega)
    have hb : rs.length < big := by unfold big; omega
    have e1 := law10 (rs.map (wd c)) (by simpa using hb)
    have e2 := law19 rs 1 (by omega) hn (by omega)
    have e3 := law19 (rs.map (wd c)) 1 (by omega) (by simpa using hn) (by omega)
    have e4 := law17 rs.length 1 (by omega) hn (by omega)
    have e5 : ¬ (1 + 11 * (rs.length : Int) < 0) := by omega
    simp only [List.map_map, List.length_map] at e1 e3
    simp [c168, h1, h, h', law9 rs hn, law18 rs c hn, law20 rs c hn, law10 rs hb, e1, e2, e3, e4, e5]
    done
end Go.Proofs.Ytpicbkaloefjeaa
