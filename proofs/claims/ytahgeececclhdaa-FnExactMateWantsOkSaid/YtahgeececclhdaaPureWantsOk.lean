/- FnExactMateWantsOk: the plain law. -/
import Derived.Test.YtahgeececclhdaaE1
import Derived.Test.YtahgeececclhdaaReadT
namespace Go.Proofs.Ytahgeececclhdaa
open Go
set_option linter.unusedSimpArgs false
set_option maxRecDepth 100000

theorem szWants_len {ws : List Want} {l : Int} (h : 0 ≤ szWants ws l) (hl : ws.length ≤ 9223372036854775807) (h0 : 0 ≤ l) (hx : l ≤ 1048576) : ws.length ≤ 1048576 := by
  unfold szWants at h
  by_cases h2 : IntKind.i64.wrap (l - ws.length) < 0
  · rw [off_neg h2] at h; simp at h
  · exact wrap_len h2 hl h0 hx

theorem wantsOk_law (ws : List Want) (hw : ListWf Want.wf ws) : F 165 [.sl .bor 7 (ws.map Want.c)] [] = some (.bool true, []) := by
  refine F_run fn165 rfl ?_
  have hl : ws.length ≤ 9223372036854775807 := by have := hw.len; unfold maxLen at this; omega
  have h1 := law8 ws 1048576 hl (by omega) (by omega)
  rcases Int.lt_or_le (szWants ws 1048576) 0 with h | h
  · have h' : ¬ (0 ≤ szWants ws 1048576) := by omega
    simp [c165, h1, h, h']
  · have h' : ¬ (szWants ws 1048576 < 0) := by omega
    have hn : ws.length ≤ 1048576 := szWants_len h hl (by omega) (by omega)
    have hb : ws.length < big := by unfold big; omega
    simp [c165, h1, h, h', law4 ws hn, law6 ws hb, law7 ws hb, law5 ws hb]
end Go.Proofs.Ytahgeececclhdaa
