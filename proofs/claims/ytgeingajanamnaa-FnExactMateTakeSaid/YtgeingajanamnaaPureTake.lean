/- FnExactMateTake: the plain law. -/
import Derived.Test.YtgeingajanamnaaE10
import Derived.Test.YtgeingajanamnaaA7
namespace Go.Proofs.Ytgeingajanamnaa
open Go
set_option linter.unusedSimpArgs false
set_option maxRecDepth 100000

theorem dropHold_len (l : List Ask) (h : T) : (dropHold l h).length ≤ l.length := List.length_filter_le _ _

theorem zero_small : Mate.zero.small := ⟨by simp [Mate.zero], by simp [Mate.zero], by simp [Mate.zero], by simp [Mate.zero]⟩

theorem take_small {m : Mate} {p : Parcel} (h : m.small) (hp : p.small) : (mateTake m p).small := by
  unfold mateTake
  split
  case isFalse => exact zero_small
  split
  case isFalse => exact h
  unfold takeKind
  split
  · unfold takeTold
    split
    · exact ⟨hp.wants, h.runs, h.asks, h.gives⟩
    · exact h
  split
  · unfold takeGiven
    split
    · split
      · exact ⟨h.wants, by simpa using h.runs, h.asks, h.gives⟩
      · exact h
    · exact h
  split
  · unfold takeBack'
    split
    · split
      · exact ⟨h.wants, h.runs, h.asks, Nat.le_trans (dropHold_len _ _) h.gives⟩
      · exact h
    · exact h
  · exact h

theorem take_law (m : Mate) (hw : m.wf) (p : Parcel) (hp : p.wf) : F 177 [.agg (m.c .bor), .agg (p.c .bor)] [] = some (.bool true, []) := by
  obtain ⟨r, h1, h2⟩ := law30 m 1048576 hw (by omega) (by omega)
  refine F_run fn177 rfl ?_
  simp only [Mate.c] at h1
  rcases h2 with h2 | ⟨h2, h3, hs⟩
  · have h' : ¬ (0 ≤ r) := by omega
    simp [c177, h1, h2, h']
  have h' : ¬ (r < 0) := by omega
  obtain ⟨r', h4, h5⟩ := law65 p r hp h2 h3
  simp only [Parcel.c] at h4
  rcases h5 with h5 | ⟨h5, _, hps⟩
  · have h5' : ¬ (0 ≤ r') := by omega
    simp [c177, h1, h2, h', h4, h5, h5']
  have h5' : ¬ (r' < 0) := by omega
  have hg := take_small hs hps
  generalize hgm : mateTake m p = g at hg
  have w1 := law26 m hs
  have w2 := law27 m hs
  have w3 := law61 m p hs hps.wants
  have w4 := law64 m p hs hps.wants
  rw [hgm] at w3 w4
  have w5 := law27 g hg
  have w6 := law46 m 1 hs (by omega) (by omega)
  have w7 := law46 g 1 hg (by omega) (by omega)
  have w8 := law45 g 1 hg (by omega) (by omega)
  have hK : 0 ≤ markMateK m 1 ∧ markMateK m 1 ≤ 1000000000 := by
    unfold markMateK
    obtain ⟨a1, a2, a3, a4⟩ := hs
    omega
  have w9 := law60 p hps
  have w10 := law63 p hps
  have w11 := law62 p (markMateK m 1) hps hK.1 (by omega)
  have n1 : ¬ (markMateK m 1 + 7 * (p.wants.length : Int) < 0) := by omega
  have n2 := markMateK_pos (m := g) (k := 1) (by omega)
  simp only [Mate.c] at w1 w2 w3 w4 w5
  simp only [Parcel.c] at w3 w4 w9 w10
  simp only [Mate.refs, Mate.arrs, List.map_cons, List.map_nil] at w6 w7
  generalize hmk : markMate g 1 = gm at w7 w8
  simp only [Mate.c] at w8
  have hx : gm.name = g.name ∧ gm.up = g.up ∧ gm.clock = g.clock ∧ gm.known = g.known ∧ gm.seen = g.seen := by subst hmk; exact ⟨rfl, rfl, rfl, rfl, rfl⟩
  obtain ⟨x1, x2, x3, x4, x5⟩ := hx
  rw [x1, x2, x3, x4, x5] at w8
  simp [c177, h1, h2, h', h4, h5, h5', w1, w2, w3, w4, w5, w6, w7, w8, w9, w10, w11, n1, n2]
  done
end Go.Proofs.Ytgeingajanamnaa
