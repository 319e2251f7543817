/- Layer 4: asks, and what a mate must be. -/
import Derived.Test.YtfebkfeobdffjaaA2
namespace Go.Proofs.Ytfebkfeobdffjaa
open Go
set_option linter.unusedSimpArgs false
set_option maxRecDepth 100000

/-- The place of a hold among asks, -1 if it is not there. -/
def askAtGo (h : T) : List Ask → Nat → Int
  | [], _ => -1
  | a :: r, i => if sEq a.hold h then i else askAtGo h r (i + 1)
def askAt (l : List Ask) (h : T) : Int := askAtGo h l 0

def head113 (l : List Ask) (h : T) (i : Nat) : St := hd [(1, .str h), (7, .sl .bor 4 (l.map Ask.c)), (8, .int .i64 l.length), (9, .int .i64 i)] [] 0

theorem law113 (l : List Ask) (h : T) (hl : l.length ≤ 1048576) : F 113 [.sl .bor 4 (l.map Ask.c), .str h] [] = some (.int .i64 (askAt l h), []) := by
  refine F_run fn113 rfl ?_
  simp [c113, askAt]
  refine (loop_list l (fun i (_ : Unit) => head113 l h i) (fun _ _ => True) (fun i r _ => (.int .i64 (askAtGo h r i), [])) (fun acc Y _ => ?_) (fun i a r acc Y ha hi hr _ hY => ?_) () ?_ trivial ?_).trans rfl
  · simp [head113, c113b0, askAtGo]
  · have hw : IntKind.i64.wrap ((i : Int) + 1) = (i : Int) + 1 := i64w (by omega) (by omega)
    obtain ⟨_, hg⟩ := List.getElem?_eq_some_iff.1 ha
    simp [head113, c113b0, askAtGo, hi, hg]
    cases q : sEq a.hold h <;> simp
    rw [hY () _ trivial (by simp [head113, hw])]
  · simp [head113]
  · unfold big; omega

def head110 (l : List Ask) (h : T) (i : Nat) : St := hd [(0, .sl .bor 4 (l.map Ask.c)), (1, .str h), (5, .int .i64 i)] [] 0

theorem law110 (l : List Ask) (h : T) (hl : l.length ≤ 1048576) : F 110 [.sl .bor 4 (l.map Ask.c), .str h] [] = some (.int .i64 (askAt l h), []) := by
  refine F_run fn110 rfl ?_
  simp [c110, askAt]
  refine (loop_list l (fun i (_ : Unit) => head110 l h i) (fun _ _ => True) (fun i r _ => (.int .i64 (askAtGo h r i), [])) (fun acc Y _ => ?_) (fun i a r acc Y ha hi hr _ hY => ?_) () ?_ trivial ?_).trans rfl
  · simp [head110, c110b0, askAtGo]
  · have hw : IntKind.i64.wrap ((i : Int) + 1) = (i : Int) + 1 := i64w (by omega) (by omega)
    obtain ⟨_, hg⟩ := List.getElem?_eq_some_iff.1 ha
    simp [head110, c110b0, askAtGo, hi, hg]
    cases q : sEq a.hold h <;> simp
    rw [hY () _ trivial (by simp [head110, hw])]
  · simp [head110]
  · unfold big; omega

def askOk (c : Int) (a : Ask) : Bool := isHold a.hold && (isName a.copy && (decide (0 ≤ a.first) && (decide (a.first ≤ a.at_) && decide (a.at_ ≤ c))))
def ascA (pre : List Ask) (a : Ask) : Bool :=
  match pre.getLast? with
  | none => true
  | some p => sLt p.hold a.hold
def asksGo (c : Int) (pre : List Ask) : List Ask → Bool
  | [] => true
  | a :: r => askOk c a && (ascA pre a && asksGo c (pre ++ [a]) r)
def asksOk (l : List Ask) (c : Int) : Bool := decide (l.length ≤ 40) && asksGo c [] l

def head114 (l : List Ask) (c : Int) (i : Nat) : St := hd [(0, .sl .bor 4 (l.map Ask.c)), (1, .int .i64 c), (7, .sl .bor 4 (l.map Ask.c)), (8, .int .i64 l.length), (9, .int .i64 i)] [] 0

theorem law114 (l : List Ask) (c : Int) (hl : l.length ≤ 1048576) : F 114 [.sl .bor 4 (l.map Ask.c), .int .i64 c] [] = some (.bool (asksOk l c), []) := by
  refine F_run fn114 rfl ?_
  have hm : l.length ≤ 9223372036854775807 := by omega
  simp [c114, asksOk]
  refine (loop_list l (fun i (_ : Unit) => head114 l c i) (fun _ _ => True) (fun i r _ => (.bool (decide (l.length ≤ 40) && asksGo c (l.take i) r), [])) (fun acc Y _ => ?_) (fun i a r acc Y ha hi hr _ hY => ?_) () ?_ trivial ?_).trans rfl
  · simp [head114, c114b0, asksGo]
    omega
  · have hw : IntKind.i64.wrap ((i : Int) + 1) = (i : Int) + 1 := i64w (by omega) (by omega)
    obtain ⟨_, hg⟩ := List.getElem?_eq_some_iff.1 ha
    have hs := take_snoc ha
    have hY' : ∀ s', s'.norm [0, 1, 7, 8, 9] = head114 l c (i + 1) → fin [CRes.tmp 4] 0 (Y s') = some (.bool (decide (l.length ≤ 40) && asksGo c (l.take i ++ [a]) r), []) := fun s' h => by rw [← hs]; exact hY () s' trivial h
    by_cases hz : i = 0
    · have hp : ¬ 0 < i := by omega
      have ht : l.take i = [] := by rw [hz]; rfl
      simp [head114, c114b0, asksGo, hg, hi, ascA, hp, ht, askOk]
      cases q1 : isHold a.hold <;> simp
      cases q2 : isName a.copy <;> simp
      rcases Int.lt_or_le a.first 0 with h | h
      · have h' : ¬ (0 ≤ a.first) := by omega
        simp [h, h']
      have h' : ¬ (a.first < 0) := by omega
      simp [h, h']
      rcases Int.lt_or_le a.at_ a.first with h2 | h2
      · have h2' : ¬ (a.first ≤ a.at_) := by omega
        simp [h2, h2']
      have h2' : ¬ (a.at_ < a.first) := by omega
      simp [h2, h2']
      rcases Int.lt_or_le c a.at_ with h3 | h3
      · have h3' : ¬ (a.at_ ≤ c) := by omega
        simp [h3, h3']
      have h3' : ¬ (c < a.at_) := by omega
      simp [h3, h3']
      rw [hY' _ (by simp [head114, hw])]
      simp [ht]
    · obtain ⟨j, hp, hw1, hj, hlast⟩ := prev hi hm hz
      simp [head114, c114b0, asksGo, hg, hi, ascA, hp, hw1, hj, hlast, askOk]
      cases q1 : isHold a.hold <;> simp
      cases q2 : isName a.copy <;> simp
      cases q3 : sLt l[j].hold a.hold <;> simp
      rcases Int.lt_or_le a.first 0 with h | h
      · have h' : ¬ (0 ≤ a.first) := by omega
        simp [h, h']
      have h' : ¬ (a.first < 0) := by omega
      simp [h, h']
      rcases Int.lt_or_le a.at_ a.first with h2 | h2
      · have h2' : ¬ (a.first ≤ a.at_) := by omega
        simp [h2, h2']
      have h2' : ¬ (a.at_ < a.first) := by omega
      simp [h2, h2']
      rcases Int.lt_or_le c a.at_ with h3 | h3
      · have h3' : ¬ (a.at_ ≤ c) := by omega
        simp [h3, h3']
      have h3' : ¬ (c < a.at_) := by omega
      simp [h3, h3']
      rw [hY' _ (by simp [head114, hw])]
  · simp [head114]
  · unfold big; omega

def head111 (l : List Ask) (c : Int) (i : Nat) : St := hd [(0, .sl .bor 4 (l.map Ask.c)), (1, .int .i64 c), (5, .int .i64 i)] [] 0

theorem law111 (l : List Ask) (c : Int) (hl : l.length ≤ 1048576) : F 111 [.sl .bor 4 (l.map Ask.c), .int .i64 c] [] = some (.bool (asksOk l c), []) := by
  refine F_run fn111 rfl ?_
  have hm : l.length ≤ 9223372036854775807 := by omega
  simp [c111, asksOk]
  by_cases h40 : l.length ≤ 40
  · have h40' : ¬ (40 < (l.length : Int)) := by omega
    simp [h40, h40']
    refine (loop_list l (fun i (_ : Unit) => head111 l c i) (fun _ _ => True) (fun i r _ => (.bool (asksGo c (l.take i) r), [])) (fun acc Y _ => ?_) (fun i a r acc Y ha hi hr _ hY => ?_) () ?_ trivial ?_).trans rfl
    · simp [head111, c111b0, asksGo]
    · have hw : IntKind.i64.wrap ((i : Int) + 1) = (i : Int) + 1 := i64w (by omega) (by omega)
      obtain ⟨_, hg⟩ := List.getElem?_eq_some_iff.1 ha
      have hs := take_snoc ha
      have hY' : ∀ s', s'.norm [0, 1, 5] = head111 l c (i + 1) → fin [CRes.tmp 4] 0 (Y s') = some (.bool (asksGo c (l.take i ++ [a]) r), []) := fun s' h => by rw [← hs]; exact hY () s' trivial h
      have q4 : ∀ b : Bool, (askOk c a && b) = (isHold a.hold && (isName a.copy && (inR a.at_ 0 c && (inR a.first 0 a.at_ && b)))) := fun b => by
        unfold askOk inR
        cases isHold a.hold <;> cases isName a.copy <;> simp
        by_cases h1 : 0 ≤ a.first <;> by_cases h2 : a.first ≤ a.at_ <;> by_cases h3 : a.at_ ≤ c <;> simp [h1, h2, h3]
        omega
      by_cases hz : i = 0
      · have hp : ¬ 0 < i := by omega
        have ht : l.take i = [] := by rw [hz]; rfl
        simp [head111, c111b0, asksGo, hg, hi, ascA, hp, ht, q4]
        cases q1 : isHold a.hold <;> simp
        cases q2 : isName a.copy <;> simp
        cases q5 : inR a.at_ 0 c <;> simp
        cases q6 : inR a.first 0 a.at_ <;> simp
        rw [hY' _ (by simp [head111, hw])]
        simp [ht]
      · obtain ⟨j, hp, hw1, hj, hlast⟩ := prev hi hm hz
        simp [head111, c111b0, asksGo, hg, hi, ascA, hp, hw1, hj, hlast, q4]
        cases q1 : isHold a.hold <;> simp
        cases q2 : isName a.copy <;> simp
        cases q5 : inR a.at_ 0 c <;> simp
        cases q6 : inR a.first 0 a.at_ <;> simp
        cases q3 : sLt l[j].hold a.hold <;> simp
        rw [hY' _ (by simp [head111, hw])]
    · simp [head111]
    · unfold big; omega
  · have h40' : 40 < (l.length : Int) := by omega
    simp [h40, h40']

structure Mate.small (m : Mate) : Prop where
  wants : m.wants.length ≤ 1048576
  runs : m.runs.length ≤ 1048576
  asks : m.asks.length ≤ 1048576
  gives : m.gives.length ≤ 1048576

/-- The parts of a mate, each alone. -/
def mateParts (m : Mate) : Bool :=
  isName m.name && (inR m.clock 0 1000000 && (inR m.seen 0 1000000 && (wantsOk m.wants && ((m.known || m.wants.isEmpty) && (runsOk m.runs m.clock && (asksOk m.asks m.clock && asksOk m.gives m.clock))))))
def apartGo (gives : List Ask) (l : List Ask) : Bool := l.all fun a => decide (askAt gives a.hold < 0)
def downRuns (l : List Run) : Bool := l.all fun r => alive r || !sEq r.want.hold ⟨#[]⟩
def mateDown (m : Mate) : Bool := !m.known && ((m.asks.isEmpty && m.gives.isEmpty) && (m.seen == 0 && downRuns m.runs))
def mateValid (m : Mate) : Bool := mateParts m && (apartGo m.gives m.asks && (m.up || mateDown m))

def head28a (m : Mate) (i : Nat) : St := hd [(1, .ptr 0 0 0), (65, .sl .bor 4 (m.asks.map Ask.c)), (66, .int .i64 m.asks.length), (67, .int .i64 i)] [.box (m.c .bor)] 0
def head28b (m : Mate) (i : Nat) : St := hd [(99, .sl .bor 11 (m.runs.map Run.c)), (100, .int .i64 m.runs.length), (101, .int .i64 i)] [] 0

theorem law28 (m : Mate) (hm : m.small) : F 28 [.agg (m.c .bor)] [] = some (.bool (mateValid m), []) := by
  refine F_run fn28 rfl ?_
  have hr := hm.runs
  have ha := hm.asks
  have l6 := law6 m.wants (by unfold big; have := hm.wants; omega)
  have l11 := law11 m.runs m.clock (by unfold big; omega)
  have l114a := law114 m.asks m.clock hm.asks
  have l114g := law114 m.gives m.clock hm.gives
  simp [c28, mateValid, mateParts, l6, l11, l114a, l114g]
  cases q1 : isName m.name <;> simp
  cases q2 : inR m.clock 0 1000000 <;> simp
  cases q3 : inR m.seen 0 1000000 <;> simp
  cases q4 : wantsOk m.wants <;> simp
  have q5 : (m.known = false ∧ m.wants ≠ []) ∨ (m.known = false ∧ m.wants = []) ∨ (m.known = true ∧ (m.wants = [] ∨ m.wants ≠ [])) := by
    cases m.known <;> by_cases q6 : m.wants = [] <;> simp [q6]
  rcases q5 with ⟨q5, q6⟩ | ⟨q5, q6⟩ | ⟨q5, q6⟩
  · simp [q5, q6]
  all_goals
    simp [q5, q6]
    cases q7 : runsOk m.runs m.clock <;> simp
    cases q8 : asksOk m.asks m.clock <;> simp
    cases q9 : asksOk m.gives m.clock <;> simp
    refine (loop_list m.asks (fun i (_ : Unit) => head28a m i) (fun _ _ => True) (fun _ r _ => (.bool (apartGo m.gives r && (m.up || mateDown m)), [])) (fun acc Y _ => ?_) (fun i a r acc Y ha hi hr _ hY => ?_) () ?_ trivial ?_).trans ?_
    · simp [head28a, c28b0, apartGo, q5]
      cases q10 : m.up <;> simp [mateDown, q5]
      try
        have hsum : IntKind.i64.wrap ((m.asks.length : Int) + m.gives.length) = (m.asks.length : Int) + m.gives.length := i64w (by omega) (by have := hm.gives; omega)
        rw [hsum]
        by_cases e1 : m.asks = [] ∧ m.gives = []
        · obtain ⟨e1, e2⟩ := e1
          simp [e1, e2]
          by_cases e3 : m.seen = 0 <;> simp [e3]
          refine (loop_list m.runs (fun i (_ : Unit) => head28b m i) (fun _ _ => True) (fun _ r _ => (.bool (downRuns r), [])) (fun acc Y _ => ?_) (fun i a r acc Y ha hi hr _ hY => ?_) () ?_ trivial ?_).trans ?_
          · simp [head28b, c28b1, downRuns]
          · have hw : IntKind.i64.wrap ((i : Int) + 1) = (i : Int) + 1 := i64w (by omega) (by omega)
            obtain ⟨_, hg⟩ := List.getElem?_eq_some_iff.1 ha
            simp [head28b, c28b1, downRuns, hi, hg, alive]
            cases q11 : aliveS a.state <;> cases q12 : sEq a.want.hold ⟨#[]⟩ <;> simp
            all_goals
              rw [hY () _ trivial (by simp [head28b, hw])]
              simp [downRuns, alive]
          · simp [head28b]
          · unfold big; omega
          · simp
        · have e2 : ¬ ((m.asks.length : Int) + m.gives.length ≤ 0) := by
            intro h
            apply e1
            constructor
            · exact List.length_eq_zero_iff.1 (by omega)
            · exact List.length_eq_zero_iff.1 (by omega)
          simp [e2]
          intro h1 h2
          exact absurd ⟨h1, h2⟩ e1
    · have hw : IntKind.i64.wrap ((i : Int) + 1) = (i : Int) + 1 := i64w (by omega) (by omega)
      obtain ⟨_, hg⟩ := List.getElem?_eq_some_iff.1 ha
      have l113 := law113 m.gives a.hold hm.gives
      simp [head28a, c28b0, apartGo, hi, hg, l113]
      rcases Int.lt_or_le (askAt m.gives a.hold) 0 with h | h
      · have h' : ¬ (0 ≤ askAt m.gives a.hold) := by omega
        simp [h, h']
        rw [hY () _ trivial (by simp [head28a, hw])]
        simp [apartGo]
      · have h' : ¬ (askAt m.gives a.hold < 0) := by omega
        simp [h, h']
    · simp [head28a, q5, q6]
    · unfold big; omega
    · simp [apartGo, q5]

def head29a (m : Mate) (i : Nat) : St := hd [(1, .ptr 0 0 0), (3, .int .i64 i)] [.box (m.c .bor)] 0
def head29b (m : Mate) (i : Nat) : St := hd [(1, .ptr 0 0 0), (4, .int .i64 i)] [.box (m.c .bor)] 0

theorem law29 (m : Mate) (hm : m.small) : F 29 [.agg (m.c .bor)] [] = some (.bool (mateValid m), []) := by
  refine F_run fn29 rfl ?_
  have hr := hm.runs
  have ha := hm.asks
  have l6 := law7 m.wants (by unfold big; have := hm.wants; omega)
  have l11 := law12 m.runs m.clock (by unfold big; omega)
  have l114a := law111 m.asks m.clock hm.asks
  have l114g := law111 m.gives m.clock hm.gives
  simp [c29, mateValid, mateParts, l6, l11, l114a, l114g]
  cases q1 : isName m.name <;> simp
  cases q2 : inR m.clock 0 1000000 <;> simp
  cases q3 : inR m.seen 0 1000000 <;> simp
  cases q4 : wantsOk m.wants <;> simp
  have q5' : (m.known = false ∧ m.wants ≠ []) ∨ (m.known = false ∧ m.wants = []) ∨ (m.known = true ∧ m.wants = []) ∨ (m.known = true ∧ m.wants ≠ []) := by
    cases m.known <;> by_cases q6 : m.wants = [] <;> simp [q6]
  rcases q5' with ⟨q5, q6⟩ | ⟨q5, q6⟩ | ⟨q5, q6⟩ | ⟨q5, q6⟩
  · simp [q5, q6, List.length_pos_iff]
  all_goals
    simp [q5, q6, List.length_pos_iff]
    cases q7 : runsOk m.runs m.clock <;> simp
    cases q8 : asksOk m.asks m.clock <;> simp
    cases q9 : asksOk m.gives m.clock <;> simp
    refine (loop_list m.asks (fun i (_ : Unit) => head29a m i) (fun _ _ => True) (fun _ r _ => (.bool (apartGo m.gives r && (m.up || mateDown m)), [])) (fun acc Y _ => ?_) (fun i a r acc Y ha hi hr _ hY => ?_) () ?_ trivial ?_).trans ?_
    · simp [head29a, c29b0, apartGo]
      cases q10 : m.up <;> simp
      refine (loop_list m.runs (fun i (_ : Unit) => head29b m i) (fun _ _ => True) (fun _ r _ => (.bool (!m.known && ((m.asks.isEmpty && m.gives.isEmpty) && (m.seen == 0 && downRuns r))), [])) (fun acc Y _ => ?_) (fun i a r acc Y ha hi hr _ hY => ?_) () ?_ trivial ?_).trans ?_
      · have hsum : IntKind.i64.wrap ((m.asks.length : Int) + m.gives.length) = (m.asks.length : Int) + m.gives.length := i64w (by omega) (by have := hm.gives; omega)
        have hemp : (((m.asks.length : Int) + m.gives.length) == 0) = (m.asks.isEmpty && m.gives.isEmpty) := by
          cases h1 : m.asks <;> cases h2 : m.gives <;> simp
          all_goals omega
        simp [head29b, c29b1, downRuns, q5, hsum, hemp]
        try
          by_cases e3 : m.seen = 0 <;> simp [e3]
      · have hw : IntKind.i64.wrap ((i : Int) + 1) = (i : Int) + 1 := i64w (by omega) (by omega)
        obtain ⟨_, hg⟩ := List.getElem?_eq_some_iff.1 ha
        simp [head29b, c29b1, downRuns, hi, hg, alive]
        cases q11 : aliveS a.state <;> cases q12 : sEq a.want.hold ⟨#[]⟩ <;> simp
        all_goals
          rw [hY () _ trivial (by simp [head29b, hw])]
          simp [downRuns, alive]
      · simp [head29b, q5, q6, q10]
      · unfold big; omega
      · simp [mateDown]
    · have hw : IntKind.i64.wrap ((i : Int) + 1) = (i : Int) + 1 := i64w (by omega) (by omega)
      obtain ⟨_, hg⟩ := List.getElem?_eq_some_iff.1 ha
      have l113 := law110 m.gives a.hold hm.gives
      simp [head29a, c29b0, apartGo, hi, hg, l113]
      rcases Int.lt_or_le (askAt m.gives a.hold) 0 with h | h
      · have h' : ¬ (0 ≤ askAt m.gives a.hold) := by omega
        simp [h, h']
        rw [hY () _ trivial (by simp [head29a, hw])]
        simp [apartGo]
      · have h' : ¬ (askAt m.gives a.hold < 0) := by omega
        simp [h, h']
    · simp [head29a, q5, q6]
    · unfold big; omega
    · simp [apartGo, q5]
end Go.Proofs.Ytfebkfeobdffjaa
