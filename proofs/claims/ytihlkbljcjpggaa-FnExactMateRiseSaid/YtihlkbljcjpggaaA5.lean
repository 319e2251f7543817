/- Layer 5: copies of mates; falls and rises. -/
import Derived.Test.YtihlkbljcjpggaaA3
import Derived.Test.YtihlkbljcjpggaaA4
namespace Go.Proofs.Ytihlkbljcjpggaa
open Go
set_option linter.unusedSimpArgs false
set_option maxRecDepth 100000

@[simp] theorem plain_want (ws : List Want) : rowsPlain (ws.map Want.c) = true := by simp [rowsPlain]
@[simp] theorem plain_run (ws : List Run) : rowsPlain (ws.map Run.c) = true := by simp [rowsPlain]
@[simp] theorem plain_ask (ws : List Ask) : rowsPlain (ws.map Ask.c) = true := by simp [rowsPlain]
@[simp] theorem plain_grant (ws : List Grant) : rowsPlain (ws.map Grant.c) = true := by simp [rowsPlain]
@[simp] theorem plain_text (ws : List T) : rowsPlain (ws.map fun s => [.str s]) = true := by simp [rowsPlain]

theorem law117 (m : Mate) (hm : m.small) : F 117 [.agg (m.c .bor)] [] = some (.agg (m.c .own), []) := by
  refine F_run fn117 rfl ?_
  obtain ⟨h1, h2, h3, h4⟩ := hm
  have e1 : m.wants.length * 72 ≤ 140737488355328 := by omega
  have e2 : m.runs.length * 104 ≤ 140737488355328 := by omega
  have e3 : m.asks.length * 48 ≤ 140737488355328 := by omega
  have e4 : m.gives.length * 48 ≤ 140737488355328 := by omega
  have f1 : m.wants.length ≤ 140737488355328 := by omega
  have f2 : m.runs.length ≤ 140737488355328 := by omega
  have f3 : m.asks.length ≤ 140737488355328 := by omega
  have f4 : m.gives.length ≤ 140737488355328 := by omega
  simp [c117, takeRows, e1, e2, e3, e4, f1, f2, f3, f4]

theorem law120 (m : Mate) (hm : m.small) : F 120 [.agg (m.c .bor)] [] = some (.agg (m.c .own), []) := by
  refine F_run fn120 rfl ?_
  obtain ⟨h1, h2, h3, h4⟩ := hm
  have e1 : m.wants.length * 72 ≤ 140737488355328 := by omega
  have e2 : m.runs.length * 104 ≤ 140737488355328 := by omega
  have e3 : m.asks.length * 48 ≤ 140737488355328 := by omega
  have e4 : m.gives.length * 48 ≤ 140737488355328 := by omega
  have f1 : m.wants.length ≤ 140737488355328 := by omega
  have f2 : m.runs.length ≤ 140737488355328 := by omega
  have f3 : m.asks.length ≤ 140737488355328 := by omega
  have f4 : m.gives.length ≤ 140737488355328 := by omega
  simp [c120, takeRows, e1, e2, e3, e4, f1, f2, f3, f4]

def Mate.zero : Mate := ⟨⟨#[]⟩, false, 0, false, 0, [], [], [], []⟩

def mateRise (m : Mate) : Mate := if mateValid m then { m with up := m.up || decide (m.clock < 1000000) } else .zero

theorem valid_clock {m : Mate} (h : mateValid m = true) : 0 ≤ m.clock ∧ m.clock ≤ 1000000 := by
  unfold mateValid mateParts at h
  simp only [Bool.and_eq_true] at h
  have := h.1.2.1
  simpa [inR] using this

theorem law35 (m : Mate) (hm : m.small) : F 35 [.agg (m.c .bor)] [] = some (.agg ((mateRise m).c .own), []) := by
  refine F_run fn35 rfl ?_
  have w1 := law28 m hm
  have w2 := law117 m hm
  simp only [Mate.c] at w1 w2
  simp [c35, w1, mateRise]
  cases hv : mateValid m
  · simp [Mate.zero]
  · have hc := valid_clock hv
    simp [w2]
    by_cases h : m.clock = 1000000
    · simp [h]
    · have h2 : m.clock < 1000000 := by omega
      simp [h, h2]

theorem law34 (m : Mate) (hm : m.small) : F 34 [.agg (m.c .bor)] [] = some (.agg ((mateRise m).c .own), []) := by
  refine F_run fn34 rfl ?_
  have w1 := law29 m hm
  have w2 := law120 m hm
  simp only [Mate.c] at w1 w2
  simp [c34, w1, mateRise]
  cases hv : mateValid m
  · simp [Mate.zero]
  · simp [w2]
    by_cases h : m.clock < 1000000
    · simp [h]
    · simp [h]
end Go.Proofs.Ytihlkbljcjpggaa
