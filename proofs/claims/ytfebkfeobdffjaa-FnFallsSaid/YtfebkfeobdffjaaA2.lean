/- Layer 2: runs: what the program's and the reference's checks compute. -/
import Derived.Test.YtfebkfeobdffjaaA1
namespace Go.Proofs.Ytfebkfeobdffjaa
open Go
set_option linter.unusedSimpArgs false
set_option maxRecDepth 100000

def aliveS (n : Int) : Bool := n == 3 || n == 4 || n == 6
@[simp] theorem aliveS_2 : aliveS 2 = false := rfl
def alive (r : Run) : Bool := aliveS r.state

@[simp] theorem law1 (s : T) (n : Int) (h : T) (n1 n2 n3 n4 m1 m2 m3 m4 : Int) : F 1 [.agg [.str s, .int .i64 n, .str h, .int .i64 n1, .int .i64 n2, .int .i64 n3, .int .i64 n4, .int .i64 m1, .int .i64 m2, .int .i64 m3, .int .i64 m4]] [] = some (.bool (aliveS m1), []) := by
  refine F_run fn1 rfl ?_
  simp [c1, aliveS]
  by_cases h1 : m1 = 3 <;> by_cases h2 : m1 = 4 <;> simp [h1, h2]

@[simp] theorem law2 (s : T) (n : Int) (h : T) (n1 n2 n3 n4 m1 m2 m3 m4 : Int) : F 2 [.agg [.str s, .int .i64 n, .str h, .int .i64 n1, .int .i64 n2, .int .i64 n3, .int .i64 n4, .int .i64 m1, .int .i64 m2, .int .i64 m3, .int .i64 m4]] [] = some (.bool (aliveS m1), []) := by
  refine F_run fn2 rfl ?_
  simp [c2, aliveS]
  by_cases h1 : m1 = 3 <;> by_cases h2 : m1 = 4 <;> simp [h1, h2]

/-- Has it its hold for long enough, or none? -/
def leasedB (hold : T) (til clock : Int) : Bool := sEq hold ⟨#[]⟩ || decide (IntKind.i64.wrap (clock + 4) ≤ til)
def leased (r : Run) (clock : Int) : Bool := leasedB r.want.hold r.til clock

@[simp] theorem law95 (s : T) (n : Int) (h : T) (n1 n2 n3 n4 m1 m2 m3 m4 c : Int) : F 95 [.agg [.str s, .int .i64 n, .str h, .int .i64 n1, .int .i64 n2, .int .i64 n3, .int .i64 n4, .int .i64 m1, .int .i64 m2, .int .i64 m3, .int .i64 m4], .int .i64 c] [] = some (.bool (leasedB h m4 c), []) := by
  refine F_run fn95 rfl ?_
  simp [c95, leasedB]
  cases h1 : sEq h ⟨#[]⟩ <;> simp [h1]

def runOk (r : Run) (clock : Int) : Bool :=
  wantOk r.want && (inR r.state 1 6 && (inR r.left 0 100 && (!(r.state == 2 && r.left != 0) && (inR r.falls 0 1000 && (inR r.til 0 1000016 && (!(sEq r.want.hold ⟨#[]⟩ && r.til != 0) && (!alive r || leased r clock)))))))

@[simp] theorem law84 (s : T) (n : Int) (h : T) (n1 n2 n3 n4 m1 m2 m3 m4 c : Int) : F 84 [.agg [.str s, .int .i64 n, .str h, .int .i64 n1, .int .i64 n2, .int .i64 n3, .int .i64 n4, .int .i64 m1, .int .i64 m2, .int .i64 m3, .int .i64 m4], .int .i64 c] [] =
    some (.bool (runOk ⟨⟨s, n, h, n1, n2, n3, n4⟩, m1, m2, m3, m4⟩ c), []) := by
  refine F_run fn84 rfl ?_
  simp [c84, runOk, alive, leased]
  cases h1 : wantOk ⟨s, n, h, n1, n2, n3, n4⟩ <;> simp [h1]
  cases h2 : inR m1 1 6 <;> simp [h2]
  cases h3 : inR m2 0 100 <;> simp [h3]
  by_cases h4 : m1 = 2 <;> simp [h4]
  · by_cases h5 : m2 = 0 <;> simp [h5]
    cases h6 : inR m3 0 1000 <;> simp [h6]
    cases h7 : inR m4 0 1000016 <;> simp [h7]
    cases h8 : sEq h ⟨#[]⟩ <;> simp [h8, aliveS]
    by_cases h9 : m4 = 0 <;> simp [h9]
  · cases h6 : inR m3 0 1000 <;> simp [h6]
    cases h7 : inR m4 0 1000016 <;> simp [h7]
    cases h8 : sEq h ⟨#[]⟩ <;> simp [h8]
    · cases h9 : aliveS m1 <;> simp [h9, h4]
    · by_cases h9 : m4 = 0 <;> simp [h9]
      cases h10 : aliveS m1 <;> simp [h10, h4]

def ascR (pre : List Run) (r : Run) : Bool :=
  match pre.getLast? with
  | none => true
  | some p => sLt p.want.copy r.want.copy
def runsGo (clock : Int) (pre : List Run) : List Run → Bool
  | [] => true
  | r :: rs => runOk r clock && (ascR pre r && runsGo clock (pre ++ [r]) rs)
def runsOk (rs : List Run) (clock : Int) : Bool := decide (rs.length ≤ 20) && runsGo clock [] rs

def head12 (rs : List Run) (c : Int) (i : Nat) : St := hd [(0, .sl .bor 11 (rs.map Run.c)), (1, .int .i64 c), (5, .int .i64 i)] [] 0

theorem law12 (rs : List Run) (c : Int) (hl : rs.length < big) : F 12 [.sl .bor 11 (rs.map Run.c), .int .i64 c] [] = some (.bool (runsOk rs c), []) := by
  refine F_run fn12 rfl ?_
  have hm : rs.length ≤ 9223372036854775807 := by unfold big at hl; omega
  simp [c12, runsOk]
  by_cases h20 : rs.length ≤ 20
  · have h20' : ¬ (20 < (rs.length : Int)) := by omega
    simp [h20, h20']
    refine (loop_list rs (fun i (_ : Unit) => head12 rs c i) (fun _ _ => True) (fun i r _ => (.bool (runsGo c (rs.take i) r), [])) (fun acc Y _ => ?_) (fun i a r acc Y ha hi hr _ hY => ?_) () ?_ trivial ?_).trans rfl
    · simp [head12, c12b0, runsGo]
    · have hw : IntKind.i64.wrap ((i : Int) + 1) = (i : Int) + 1 := i64w (by omega) (by omega)
      obtain ⟨_, hg⟩ := List.getElem?_eq_some_iff.1 ha
      have hs := take_snoc ha
      have hY' : ∀ s', s'.norm [0, 1, 5] = head12 rs c (i + 1) → fin [CRes.tmp 4] 0 (Y s') = some (.bool (runsGo c (rs.take i ++ [a]) r), []) := fun s' h => by rw [← hs]; exact hY () s' trivial h
      by_cases hz : i = 0
      · have hp : ¬ 0 < i := by omega
        have ht : rs.take i = [] := by rw [hz]; rfl
        simp [head12, c12b0, runsGo, hg, hi, ascR, hp, ht]
        cases hq : runOk a c <;> simp [hq]
        rw [hY' _ (by simp [head12, hw])]
        simp [ht]
      · obtain ⟨j, hp, hw1, hj, hlast⟩ := prev hi hm hz
        simp [head12, c12b0, runsGo, hg, hi, ascR, hp, hw1, hj, hlast]
        cases hq : runOk a c <;> cases hr3 : sLt rs[j].want.copy a.want.copy <;> simp [hq, hr3]
        rw [hY' _ (by simp [head12, hw])]
    · simp [head12]
    · exact hl
  · have h20' : 20 < (rs.length : Int) := by omega
    simp [h20, h20']

def head11 (rs : List Run) (c : Int) (i : Nat) : St := hd [(0, .sl .bor 11 (rs.map Run.c)), (1, .int .i64 c), (10, .sl .bor 11 (rs.map Run.c)), (11, .int .i64 rs.length), (12, .int .i64 i)] [] 0

theorem law11 (rs : List Run) (c : Int) (hl : rs.length < big) : F 11 [.sl .bor 11 (rs.map Run.c), .int .i64 c] [] = some (.bool (runsOk rs c), []) := by
  refine F_run fn11 rfl ?_
  have hm : rs.length ≤ 9223372036854775807 := by unfold big at hl; omega
  simp [c11, runsOk]
  by_cases h20 : rs.length ≤ 20
  · have h20' : ¬ (20 < (rs.length : Int)) := by omega
    simp [h20, h20']
    refine (loop_list rs (fun i (_ : Unit) => head11 rs c i) (fun _ _ => True) (fun i r _ => (.bool (runsGo c (rs.take i) r), [])) (fun acc Y _ => ?_) (fun i a r acc Y ha hi hr _ hY => ?_) () ?_ trivial ?_).trans rfl
    · simp [head11, c11b0, runsGo]
    · have hw : IntKind.i64.wrap ((i : Int) + 1) = (i : Int) + 1 := i64w (by omega) (by omega)
      obtain ⟨_, hg⟩ := List.getElem?_eq_some_iff.1 ha
      have hs := take_snoc ha
      have hY' : ∀ s', s'.norm [0, 1, 10, 11, 12] = head11 rs c (i + 1) → fin [CRes.tmp 4] 0 (Y s') = some (.bool (runsGo c (rs.take i ++ [a]) r), []) := fun s' h => by rw [← hs]; exact hY () s' trivial h
      by_cases hz : i = 0
      · have hp : ¬ 0 < i := by omega
        have ht : rs.take i = [] := by rw [hz]; rfl
        simp [head11, c11b0, runsGo, hg, hi, ascR, hp, ht, runOk, alive, leased, leasedB]
        cases q1 : wantOk a.want <;> simp [q1]
        cases q2 : inR a.state 1 6 <;> simp [q2]
        cases q3 : inR a.left 0 100 <;> simp [q3]
        cases q5 : inR a.falls 0 1000
        · by_cases h4 : a.state = 2 <;> by_cases h5 : a.left = 0 <;> simp [h4, h5]
        cases q6 : inR a.til 0 1000016
        · by_cases h4 : a.state = 2 <;> by_cases h5 : a.left = 0 <;> simp [h4, h5]
        cases q7 : sEq a.want.hold ⟨#[]⟩ <;> simp
        · by_cases h8 : IntKind.i64.wrap (c + 4) ≤ a.til
          · have h9 : ¬ (a.til < IntKind.i64.wrap (c + 4)) := by omega
            simp [h8, h9]
            by_cases h4 : a.state = 2 <;> by_cases h5 : a.left = 0 <;> simp [h4, h5]
            all_goals
              rw [hY' _ (by simp [head11, hw])]
              simp [ht, h4, h5]
          · have h9 : a.til < IntKind.i64.wrap (c + 4) := by omega
            simp [h8, h9]
            by_cases h4 : a.state = 2 <;> by_cases h5 : a.left = 0 <;> simp [h4, h5]
            · rw [hY' _ (by simp [head11, hw])]
              simp [ht, h4, h5]
            all_goals
              cases q10 : aliveS a.state <;> simp [q10]
              rw [hY' _ (by simp [head11, hw])]
              simp [ht, h4, h5, q10]
        · by_cases h8 : a.til = 0 <;> simp [h8]
          · by_cases h4 : a.state = 2 <;> by_cases h5 : a.left = 0 <;> simp [h4, h5]
            all_goals
              rw [hY' _ (by simp [head11, hw])]
              simp [ht, h4, h5]
      · obtain ⟨j, hp, hw1, hj, hlast⟩ := prev hi hm hz
        simp [head11, c11b0, runsGo, hg, hi, ascR, hp, hw1, hj, hlast, runOk, alive, leased, leasedB]
        cases q1 : wantOk a.want <;> simp [q1]
        cases hr3 : sLt rs[j].want.copy a.want.copy <;> simp [hr3]
        cases q2 : inR a.state 1 6 <;> simp [q2]
        cases q3 : inR a.left 0 100 <;> simp [q3]
        cases q5 : inR a.falls 0 1000
        · by_cases h4 : a.state = 2 <;> by_cases h5 : a.left = 0 <;> simp [h4, h5]
        cases q6 : inR a.til 0 1000016
        · by_cases h4 : a.state = 2 <;> by_cases h5 : a.left = 0 <;> simp [h4, h5]
        cases q7 : sEq a.want.hold ⟨#[]⟩ <;> simp
        · by_cases h8 : IntKind.i64.wrap (c + 4) ≤ a.til
          · have h9 : ¬ (a.til < IntKind.i64.wrap (c + 4)) := by omega
            simp [h8, h9]
            by_cases h4 : a.state = 2 <;> by_cases h5 : a.left = 0 <;> simp [h4, h5]
            all_goals
              rw [hY' _ (by simp [head11, hw])]
              try simp [h4, h5]
          · have h9 : a.til < IntKind.i64.wrap (c + 4) := by omega
            simp [h8, h9]
            by_cases h4 : a.state = 2 <;> by_cases h5 : a.left = 0 <;> simp [h4, h5]
            · rw [hY' _ (by simp [head11, hw])]
              try simp [h4, h5]
            all_goals
              cases q10 : aliveS a.state <;> simp [q10]
              rw [hY' _ (by simp [head11, hw])]
              try simp [h4, h5, q10]
        · by_cases h8 : a.til = 0 <;> simp [h8]
          · by_cases h4 : a.state = 2 <;> by_cases h5 : a.left = 0 <;> simp [h4, h5]
            all_goals
              rw [hY' _ (by simp [head11, hw])]
              try simp [h4, h5]
    · simp [head11]
    · exact hl
  · have h20' : 20 < (rs.length : Int) := by omega
    simp [h20, h20']
end Go.Proofs.Ytfebkfeobdffjaa
