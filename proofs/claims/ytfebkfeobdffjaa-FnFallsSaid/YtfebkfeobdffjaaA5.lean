/- Layer 5: copies of mates; falls and rises. -/
import Derived.Test.YtfebkfeobdffjaaA3
import Derived.Test.YtfebkfeobdffjaaA4
namespace Go.Proofs.Ytfebkfeobdffjaa
open Go
set_option linter.unusedSimpArgs false
set_option maxRecDepth 100000

@[simp] theorem plain_want (ws : List Want) : rowsPlain (ws.map Want.c) = true := by simp [rowsPlain]
@[simp] theorem plain_run (ws : List Run) : rowsPlain (ws.map Run.c) = true := by simp [rowsPlain]
@[simp] theorem plain_ask (ws : List Ask) : rowsPlain (ws.map Ask.c) = true := by simp [rowsPlain]
@[simp] theorem plain_grant (ws : List Grant) : rowsPlain (ws.map Grant.c) = true := by simp [rowsPlain]
@[simp] theorem plain_text (ws : List T) : rowsPlain (ws.map fun s => [.str s]) = true := by simp [rowsPlain]

theorem law117 (m : Mate) (hm : m.small) : F 117 [.agg (m.c .bor)] [] = some (.agg (m.c .own), []) := by
  refine F_run fn117 rfl ?_
  obtain ⟨h1, h2, h3, h4⟩ := hm
  have e1 : m.wants.length * 72 ≤ 140737488355328 := by omega
  have e2 : m.runs.length * 104 ≤ 140737488355328 := by omega
  have e3 : m.asks.length * 48 ≤ 140737488355328 := by omega
  have e4 : m.gives.length * 48 ≤ 140737488355328 := by omega
  have f1 : m.wants.length ≤ 140737488355328 := by omega
  have f2 : m.runs.length ≤ 140737488355328 := by omega
  have f3 : m.asks.length ≤ 140737488355328 := by omega
  have f4 : m.gives.length ≤ 140737488355328 := by omega
  simp [c117, takeRows, e1, e2, e3, e4, f1, f2, f3, f4]

theorem law120 (m : Mate) (hm : m.small) : F 120 [.agg (m.c .bor)] [] = some (.agg (m.c .own), []) := by
  refine F_run fn120 rfl ?_
  obtain ⟨h1, h2, h3, h4⟩ := hm
  have e1 : m.wants.length * 72 ≤ 140737488355328 := by omega
  have e2 : m.runs.length * 104 ≤ 140737488355328 := by omega
  have e3 : m.asks.length * 48 ≤ 140737488355328 := by omega
  have e4 : m.gives.length * 48 ≤ 140737488355328 := by omega
  have f1 : m.wants.length ≤ 140737488355328 := by omega
  have f2 : m.runs.length ≤ 140737488355328 := by omega
  have f3 : m.asks.length ≤ 140737488355328 := by omega
  have f4 : m.gives.length ≤ 140737488355328 := by omega
  simp [c120, takeRows, e1, e2, e3, e4, f1, f2, f3, f4]

def Mate.zero : Mate := ⟨⟨#[]⟩, false, 0, false, 0, [], [], [], []⟩

def mateRise (m : Mate) : Mate := if mateValid m then { m with up := m.up || decide (m.clock < 1000000) } else .zero

theorem valid_clock {m : Mate} (h : mateValid m = true) : 0 ≤ m.clock ∧ m.clock ≤ 1000000 := by
  unfold mateValid mateParts at h
  simp only [Bool.and_eq_true] at h
  have := h.1.2.1
  simpa [inR] using this

theorem law35 (m : Mate) (hm : m.small) : F 35 [.agg (m.c .bor)] [] = some (.agg ((mateRise m).c .own), []) := by
  refine F_run fn35 rfl ?_
  have w1 := law28 m hm
  have w2 := law117 m hm
  simp only [Mate.c] at w1 w2
  simp [c35, w1, mateRise]
  cases hv : mateValid m
  · simp [Mate.zero]
  · have hc := valid_clock hv
    simp [w2]
    by_cases h : m.clock = 1000000
    · simp [h]
    · have h2 : m.clock < 1000000 := by omega
      simp [h, h2]

theorem law34 (m : Mate) (hm : m.small) : F 34 [.agg (m.c .bor)] [] = some (.agg ((mateRise m).c .own), []) := by
  refine F_run fn34 rfl ?_
  have w1 := law29 m hm
  have w2 := law120 m hm
  simp only [Mate.c] at w1 w2
  simp [c34, w1, mateRise]
  cases hv : mateValid m
  · simp [Mate.zero]
  · simp [w2]
    by_cases h : m.clock < 1000000
    · simp [h]
    · simp [h]

/-- What is left of a run behind a fall. -/
def fallRun (machine : Bool) (r : Run) : Option Run :=
  if alive r then (if machine then (if sEq r.want.hold ⟨#[]⟩ then none else some { r with state := 2, left := 0 }) else some r) else none
def mateFall (m : Mate) (machine : Bool) : Mate := if mateValid m then { Mate.zero with name := m.name, clock := m.clock, runs := m.runs.filterMap (fallRun machine) } else .zero

def ownVi (id sz : Nat) (xs : List (List AV)) : AV := match xs with
  | [] => .sl .own sz []
  | _ => .ref id
@[simp] theorem ownVi_nil (id sz : Nat) : ownVi id sz [] = .sl .own sz [] := rfl
@[simp] theorem ownVi_cons (id sz : Nat) (x : List AV) (xs : List (List AV)) : ownVi id sz (x :: xs) = .ref id := rfl
@[simp] theorem ownVi_snoc (id sz : Nat) (x : List AV) (xs : List (List AV)) : ownVi id sz (xs ++ [x]) = .ref id := by cases xs <;> rfl

def zeroCells : List AV := [.str ⟨#[]⟩, .bool false, .int .i64 0, .bool false, .int .i64 0, .sl .own 7 [], .sl .own 11 [], .sl .own 4 [], .sl .own 4 []]
def fallCells (m : Mate) (acc : List Run) : List AV := [.str m.name, .bool false, .int .i64 m.clock, .bool false, .int .i64 0, .sl .own 7 [], ownVi 2 11 (acc.map Run.c), .sl .own 4 [], .sl .own 4 []]

def head36 (m : Mate) (b : Bool) (i : Nat) (acc : List Run) : St := hd [(1, .bool b), (4, .ptr 0 0 0), (5, .ptr 1 0 0), (18, .sl .bor 11 (m.runs.map Run.c)), (19, .int .i64 m.runs.length), (20, .int .i64 i)] (.box zeroCells :: .box (fallCells m acc) :: ownH 11 (acc.map Run.c)) 0

theorem law36 (m : Mate) (b : Bool) (hm : m.small) : F 36 [.agg (m.c .bor), .bool b] [] = some (.agg ((mateFall m b).c .own), []) := by
  refine F_run fn36 rfl ?_
  have hr := hm.runs
  have w1 := law28 m hm
  simp only [Mate.c] at w1
  simp [c36, w1, mateFall]
  cases hv : mateValid m <;> simp
  · simp [Mate.zero]
  refine (loop_list m.runs (fun i (acc : List Run) => head36 m b i acc) (fun i acc => acc.length ≤ i) (fun _ r acc => (.agg (({ Mate.zero with name := m.name, clock := m.clock, runs := acc ++ r.filterMap (fallRun b) } : Mate).c .own), [])) (fun acc Y hacc => ?_) (fun i a r acc Y ha hi hr hacc hY => ?_) [] ?_ (Nat.le_refl _) ?_).trans ?_
  · rcases acc with _ | ⟨x, acc⟩
    · simp [head36, c36b0, zeroCells, fallCells, Mate.zero]
    · simp [head36, c36b0, zeroCells, fallCells, Mate.zero]
  · have hw : IntKind.i64.wrap ((i : Int) + 1) = (i : Int) + 1 := i64w (by omega) (by omega)
    obtain ⟨_, hg⟩ := List.getElem?_eq_some_iff.1 ha
    have hb3 : (acc.length + 1) * 104 ≤ 140737488355328 := by omega
    have hb4 : acc.length + 1 ≤ 140737488355328 := by omega
    have hno : fallRun b a = none → ∀ s' : St, s'.norm [1, 4, 5, 18, 19, 20] = head36 m b (i + 1) acc → fin [CRes.cell 4 9 true] 0 (Y s') = some (.agg (({ Mate.zero with name := m.name, clock := m.clock, runs := acc ++ (a :: r).filterMap (fallRun b) } : Mate).c .own), []) := fun hx s' h => by
      rw [hY acc s' (by omega) h]; simp [hx]
    have hyes : ∀ x, fallRun b a = some x → ∀ s' : St, s'.norm [1, 4, 5, 18, 19, 20] = head36 m b (i + 1) (acc ++ [x]) → fin [CRes.cell 4 9 true] 0 (Y s') = some (.agg (({ Mate.zero with name := m.name, clock := m.clock, runs := acc ++ (a :: r).filterMap (fallRun b) } : Mate).c .own), []) := fun x hx s' h => by
      rw [hY (acc ++ [x]) s' (by simp; omega) h]; simp [hx]
    rcases acc with _ | ⟨x, acc⟩
    · simp [head36, c36b0, zeroCells, fallCells, hi, hg, takeRows, rowsPlain]
      cases q1 : aliveS a.state <;> simp
      · exact (hno (by simp [fallRun, alive, q1]) _ (by simp [head36, hw, zeroCells, fallCells])).trans (by simp)
      cases q2 : b <;> simp
      · exact (hyes a (by simp [fallRun, alive, q1, q2]) _ (by simp [head36, hw, zeroCells, fallCells, q2])).trans (by simp [q2])
      cases q3 : sEq a.want.hold ⟨#[]⟩ <;> simp
      · exact (hyes { a with state := 2, left := 0 } (by simp [fallRun, alive, q1, q2, q3]) _ (by simp [head36, hw, zeroCells, fallCells, q2])).trans (by simp [q2])
      · exact (hno (by simp [fallRun, alive, q1, q2, q3]) _ (by simp [head36, hw, zeroCells, fallCells, q2])).trans (by simp [q2])
    · simp only [List.length_cons] at hb3 hb4
      simp [head36, c36b0, zeroCells, fallCells, hi, hg, takeRows, rowsPlain, hb3, hb4]
      cases q1 : aliveS a.state <;> simp
      · exact (hno (by simp [fallRun, alive, q1]) _ (by simp [head36, hw, zeroCells, fallCells])).trans (by simp)
      cases q2 : b <;> simp
      · exact (hyes a (by simp [fallRun, alive, q1, q2]) _ (by simp [head36, hw, zeroCells, fallCells, q2])).trans (by simp [q2])
      cases q3 : sEq a.want.hold ⟨#[]⟩ <;> simp
      · exact (hyes { a with state := 2, left := 0 } (by simp [fallRun, alive, q1, q2, q3]) _ (by simp [head36, hw, zeroCells, fallCells, q2])).trans (by simp [q2])
      · exact (hno (by simp [fallRun, alive, q1, q2, q3]) _ (by simp [head36, hw, zeroCells, fallCells, q2])).trans (by simp [q2])
  · simp [head36, zeroCells, fallCells]
  · unfold big; omega
  · simp [Mate.zero]

def fallCells3 (m : Mate) (acc : List Run) : List AV := [.str m.name, .bool false, .int .i64 m.clock, .bool false, .int .i64 0, .sl .own 7 [], ownVi 3 11 (acc.map Run.c), .sl .own 4 [], .sl .own 4 []]
def head32 (m : Mate) (b : Bool) (i : Nat) (acc : List Run) : St := hd [(1, .bool b), (2, .ptr 0 0 0), (4, .ptr 1 0 0), (5, .ptr 2 0 0), (6, .int .i64 i)] (.box (m.c .bor) :: .box zeroCells :: .box (fallCells3 m acc) :: ownH 11 (acc.map Run.c)) 0

theorem filterMap_len {α β : Type} (f : α → Option β) : ∀ xs : List α, (xs.filterMap f).length ≤ xs.length := fun xs => List.length_filterMap_le f xs

theorem law32 (m : Mate) (b : Bool) (hm : m.small) : F 32 [.agg (m.c .bor), .bool b] [] = some (.agg ((mateFall m b).c .own), []) := by
  refine F_run fn32 rfl ?_
  have hr := hm.runs
  have w1 := law29 m hm
  simp only [Mate.c] at w1
  simp [c32, w1, mateFall]
  cases hv : mateValid m <;> simp
  · simp [Mate.zero]
  refine (loop_list m.runs (fun i (acc : List Run) => head32 m b i acc) (fun i acc => acc.length ≤ i) (fun _ r acc => (.agg (({ Mate.zero with name := m.name, clock := m.clock, runs := acc ++ r.filterMap (fallRun b) } : Mate).c .own), [])) (fun acc Y hacc => ?_) (fun i a r acc Y ha hi hr _ hY => ?_) [] ?_ (Nat.le_refl _) ?_).trans ?_
  · have w2 := law120 { Mate.zero with name := m.name, clock := m.clock, runs := acc } ⟨by simp [Mate.zero], by simp only; omega, by simp [Mate.zero], by simp [Mate.zero]⟩
    simp only [Mate.c, Mate.zero, List.map_nil] at w2
    rcases acc with _ | ⟨x, acc⟩
    · simp only [List.map_nil] at w2
      simp [head32, c32b0, zeroCells, fallCells3, Mate.zero, w2]
    · simp only [List.map_cons, Run.c] at w2
      simp [head32, c32b0, zeroCells, fallCells3, Mate.zero, w2]
  · rename_i hacc
    have hw : IntKind.i64.wrap ((i : Int) + 1) = (i : Int) + 1 := i64w (by omega) (by omega)
    obtain ⟨_, hg⟩ := List.getElem?_eq_some_iff.1 ha
    have hb3 : (acc.length + 1) * 104 ≤ 140737488355328 := by omega
    have hb4 : acc.length + 1 ≤ 140737488355328 := by omega
    have hno : fallRun b a = none → ∀ s' : St, s'.norm [1, 2, 4, 5, 6] = head32 m b (i + 1) acc → fin [CRes.cell 4 9 true] 0 (Y s') = some (.agg (({ Mate.zero with name := m.name, clock := m.clock, runs := acc ++ (a :: r).filterMap (fallRun b) } : Mate).c .own), []) := fun hx s' h => by
      rw [hY acc s' (by omega) h]; simp [hx]
    have hyes : ∀ x, fallRun b a = some x → ∀ s' : St, s'.norm [1, 2, 4, 5, 6] = head32 m b (i + 1) (acc ++ [x]) → fin [CRes.cell 4 9 true] 0 (Y s') = some (.agg (({ Mate.zero with name := m.name, clock := m.clock, runs := acc ++ (a :: r).filterMap (fallRun b) } : Mate).c .own), []) := fun x hx s' h => by
      rw [hY (acc ++ [x]) s' (by simp; omega) h]; simp [hx]
    rcases acc with _ | ⟨x, acc⟩
    all_goals
      try simp only [List.length_cons] at hb3 hb4
      simp [head32, c32b0, zeroCells, fallCells3, hi, hg, takeRows, rowsPlain, hb3, hb4]
      cases q2 : b <;> simp
      · cases q1 : aliveS a.state <;> simp
        · exact (hno (by simp [fallRun, alive, q1]) _ (by simp [head32, hw, zeroCells, fallCells3, q2])).trans (by simp [q2])
        · exact (hyes a (by simp [fallRun, alive, q1, q2]) _ (by simp [head32, hw, zeroCells, fallCells3, q2])).trans (by simp [q2])
      · cases q1 : aliveS a.state <;> simp
        · exact (hno (by simp [fallRun, alive, q1]) _ (by simp [head32, hw, zeroCells, fallCells3, q2])).trans (by simp [q2])
        cases q3 : sEq a.want.hold ⟨#[]⟩ <;> simp
        · exact (hyes { a with state := 2, left := 0 } (by simp [fallRun, alive, q1, q2, q3]) _ (by simp [head32, hw, zeroCells, fallCells3, q2])).trans (by simp [q2])
        · exact (hno (by simp [fallRun, alive, q1, q2, q3]) _ (by simp [head32, hw, zeroCells, fallCells3, q2])).trans (by simp [q2])
  · simp [head32, zeroCells, fallCells3]
  · unfold big; omega
  · simp [Mate.zero]
end Go.Proofs.Ytfebkfeobdffjaa
