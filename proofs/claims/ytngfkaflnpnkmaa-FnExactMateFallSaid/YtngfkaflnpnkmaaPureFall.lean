/- FnExactMateFall: the plain law. -/
import Derived.Test.YtngfkaflnpnkmaaE7
import Derived.Test.YtngfkaflnpnkmaaA5
namespace Go.Proofs.Ytngfkaflnpnkmaa
open Go
set_option linter.unusedSimpArgs false
set_option maxRecDepth 100000

theorem fall_small {m : Mate} (b : Bool) (h : m.small) : (mateFall m b).small := by
  have h2 := h.runs
  unfold mateFall
  split
  · refine ⟨by simp [Mate.zero], ?_, by simp [Mate.zero], by simp [Mate.zero]⟩
    have := filterMap_len (fallRun b) m.runs
    simp only
    omega
  · exact ⟨by simp [Mate.zero], by simp [Mate.zero], by simp [Mate.zero], by simp [Mate.zero]⟩

theorem fall_law (m : Mate) (hw : m.wf) (b : Bool) (_ : True) : F 174 [.agg (m.c .bor), .bool b] [] = some (.bool true, []) := by
  obtain ⟨r, h1, h2⟩ := law30 m 1048576 hw (by omega) (by omega)
  refine F_run fn174 rfl ?_
  simp only [Mate.c] at h1
  rcases h2 with h2 | ⟨h2, _, hs⟩
  · have h' : ¬ (0 ≤ r) := by omega
    simp [c174, h1, h2, h']
  · have h' : ¬ (r < 0) := by omega
    have hg := fall_small b hs
    generalize hgm : mateFall m b = g at hg
    have w1 := law26 m hs
    have w2 := law27 m hs
    have w3 := law32 m b hs
    have w4 := law36 m b hs
    rw [hgm] at w3 w4
    have w5 := law27 g hg
    have w6 := law46 m 1 hs (by omega) (by omega)
    have w7 := law46 g 1 hg (by omega) (by omega)
    have w8 := law45 g 1 hg (by omega) (by omega)
    have n1 := markMateK_pos (m := m) (k := 1) (by omega)
    have n2 := markMateK_pos (m := g) (k := 1) (by omega)
    simp only [Mate.c] at w1 w2 w3 w4 w5
    simp only [Mate.refs, Mate.arrs, List.map_cons, List.map_nil] at w6 w7
    generalize hmk : markMate g 1 = gm at w7 w8
    simp only [Mate.c] at w8
    have hx : gm.name = g.name ∧ gm.up = g.up ∧ gm.clock = g.clock ∧ gm.known = g.known ∧ gm.seen = g.seen := by subst hmk; exact ⟨rfl, rfl, rfl, rfl, rfl⟩
    obtain ⟨x1, x2, x3, x4, x5⟩ := hx
    rw [x1, x2, x3, x4, x5] at w8
    simp [c174, h1, h2, h', w1, w2, w3, w4, w5, w6, w7, w8, n1, n2]
    done
end Go.Proofs.Ytngfkaflnpnkmaa
