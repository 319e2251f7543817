/- Layer 3: ticks of runs. -/
import Derived.Test.YtpicbkaloefjeaaA2
namespace Go.Proofs.Ytpicbkaloefjeaa
open Go
set_option linter.unusedSimpArgs false
set_option maxRecDepth 100000

/-- The machine's watchdog, on one run. -/
def wd (c : Int) (r : Run) : Run := if alive r && !leased r c then { r with state := 2, left := 0 } else r

/-- An array of the call's own that is filled from nothing: nil at first. -/
def ownV (sz : Nat) (xs : List (List AV)) : AV := match xs with
  | [] => .sl .own sz []
  | _ => .ref 0
def ownH (sz : Nat) (xs : List (List AV)) : List AO := match xs with
  | [] => []
  | xs => [.arr sz xs]
@[simp] theorem ownV_nil (sz : Nat) : ownV sz [] = .sl .own sz [] := rfl
@[simp] theorem ownH_nil (sz : Nat) : ownH sz [] = [] := rfl
@[simp] theorem ownV_cons (sz : Nat) (x : List AV) (xs : List (List AV)) : ownV sz (x :: xs) = .ref 0 := rfl
@[simp] theorem ownH_cons (sz : Nat) (x : List AV) (xs : List (List AV)) : ownH sz (x :: xs) = [.arr sz (x :: xs)] := rfl
@[simp] theorem ownV_snoc (sz : Nat) (x : List AV) (xs : List (List AV)) : ownV sz (xs ++ [x]) = .ref 0 := by cases xs <;> rfl
@[simp] theorem ownH_snoc (sz : Nat) (x : List AV) (xs : List (List AV)) : ownH sz (xs ++ [x]) = [.arr sz (xs ++ [x])] := by cases xs <;> rfl

def head18 (rs : List Run) (c : Int) (i : Nat) (acc : List Run) : St := hd [(1, .int .i64 c), (5, ownV 11 (acc.map Run.c)), (8, .sl .bor 11 (rs.map Run.c)), (9, .int .i64 rs.length), (10, .int .i64 i)] (ownH 11 (acc.map Run.c)) 0

theorem law18 (rs : List Run) (c : Int) (hl : rs.length ≤ 1048576) : F 18 [.sl .bor 11 (rs.map Run.c), .int .i64 c] [] = some (.sl .own 11 ((rs.map (wd c)).map Run.c), []) := by
  refine F_run fn18 rfl ?_
  simp [c18]
  refine (loop_list rs (fun i (acc : List Run) => head18 rs c i acc) (fun i acc => acc.length = i) (fun _ r acc => (.sl .own 11 ((acc ++ r.map (wd c)).map Run.c), [])) (fun acc Y hacc => ?_) (fun i a r acc Y ha hi hr hacc hY => ?_) [] ?_ rfl ?_).trans ?_
  · rcases acc with _ | ⟨b, acc⟩
    · simp [head18, c18b0]
    · simp [head18, c18b0]
  · have hw : IntKind.i64.wrap ((i : Int) + 1) = (i : Int) + 1 := i64w (by omega) (by omega)
    obtain ⟨_, hg⟩ := List.getElem?_eq_some_iff.1 ha
    have hb1 : ((acc.length : Int) + 1) * 104 ≤ 140737488355328 := by omega
    have hb2 : (acc.length : Int) + 1 ≤ 140737488355328 := by omega
    have hb3 : (acc.length + 1) * 104 ≤ 140737488355328 := by omega
    have hb4 : acc.length + 1 ≤ 140737488355328 := by omega
    have hfin : ∀ x : Run, wd c a = x → ∀ s' : St, s'.norm [1, 5, 8, 9, 10] = head18 rs c (i + 1) (acc ++ [x]) → fin [CRes.tmp 4] 0 (Y s') = some (.sl .own 11 ((acc ++ (wd c a :: r.map (wd c))).map Run.c), []) := fun x hx s' h => by
      rw [hY _ s' (by simp [hacc]) h, ← hx]; simp
    rcases acc with _ | ⟨b, acc⟩
    · simp [head18, c18b0, hi, hg, rowsPlain, takeRows]
      cases q1 : aliveS a.state <;> simp
      · exact (hfin a (by simp [wd, alive, q1]) _ (by simp [head18, hw])).trans (by simp)
      cases q2 : sEq a.want.hold ⟨#[]⟩ <;> simp
      · by_cases q3 : a.til < IntKind.i64.wrap (c + 4)
        · have q4 : ¬ (IntKind.i64.wrap (c + 4) ≤ a.til) := by omega
          simp [q3]
          exact (hfin { a with state := 2, left := 0 } (by simp [wd, alive, leased, leasedB, q1, q2, q4]) _ (by simp [head18, hw])).trans (by simp)
        · have q4 : IntKind.i64.wrap (c + 4) ≤ a.til := by omega
          simp [q3]
          exact (hfin a (by simp [wd, alive, leased, leasedB, q1, q2, q4]) _ (by simp [head18, hw])).trans (by simp)
      · exact (hfin a (by simp [wd, alive, leased, leasedB, q1, q2]) _ (by simp [head18, hw])).trans (by simp)
    · simp only [List.length_cons] at hb3 hb4
      simp [head18, c18b0, hi, hg, rowsPlain, takeRows, hb3, hb4]
      cases q1 : aliveS a.state <;> simp
      · exact (hfin a (by simp [wd, alive, q1]) _ (by simp [head18, hw])).trans (by simp)
      cases q2 : sEq a.want.hold ⟨#[]⟩ <;> simp
      · by_cases q3 : a.til < IntKind.i64.wrap (c + 4)
        · have q4 : ¬ (IntKind.i64.wrap (c + 4) ≤ a.til) := by omega
          simp [q3]
          exact (hfin { a with state := 2, left := 0 } (by simp [wd, alive, leased, leasedB, q1, q2, q4]) _ (by simp [head18, hw])).trans (by simp)
        · have q4 : IntKind.i64.wrap (c + 4) ≤ a.til := by omega
          simp [q3]
          exact (hfin a (by simp [wd, alive, leased, leasedB, q1, q2, q4]) _ (by simp [head18, hw])).trans (by simp)
      · exact (hfin a (by simp [wd, alive, leased, leasedB, q1, q2]) _ (by simp [head18, hw])).trans (by simp)
  · simp [head18]
  · unfold big; omega
  · simp

def head20 (rs : List Run) (c : Int) (i : Nat) (acc : List Run) : St := hd [(0, .sl .bor 11 (rs.map Run.c)), (1, .int .i64 c), (5, .ref 0), (6, .int .i64 i)] [.arr 11 (acc.map Run.c)] 0

theorem law20 (rs : List Run) (c : Int) (hl : rs.length ≤ 1048576) : F 20 [.sl .bor 11 (rs.map Run.c), .int .i64 c] [] = some (.sl .own 11 ((rs.map (wd c)).map Run.c), []) := by
  refine F_run fn20 rfl ?_
  simp [c20]
  refine (loop_list rs (fun i (acc : List Run) => head20 rs c i acc) (fun i acc => acc.length = i) (fun _ r acc => (.sl .own 11 ((acc ++ r.map (wd c)).map Run.c), [])) (fun acc Y hacc => ?_) (fun i a r acc Y ha hi hr hacc hY => ?_) [] ?_ rfl ?_).trans ?_
  · simp [head20, c20b0]
  · have hw : IntKind.i64.wrap ((i : Int) + 1) = (i : Int) + 1 := i64w (by omega) (by omega)
    obtain ⟨_, hg⟩ := List.getElem?_eq_some_iff.1 ha
    have hb3 : (acc.length + 1) * 104 ≤ 140737488355328 := by omega
    have hb4 : acc.length + 1 ≤ 140737488355328 := by omega
    have hfin : ∀ x : Run, wd c a = x → ∀ s' : St, s'.norm [0, 1, 5, 6] = head20 rs c (i + 1) (acc ++ [x]) → fin [CRes.tmp 4] 0 (Y s') = some (.sl .own 11 ((acc ++ (wd c a :: r.map (wd c))).map Run.c), []) := fun x hx s' h => by
      rw [hY _ s' (by simp [hacc]) h, ← hx]; simp
    simp [head20, c20b0, hi, hg, rowsPlain, takeRows, hb3, hb4]
    cases q1 : aliveS a.state <;> simp
    · exact (hfin a (by simp [wd, alive, q1]) _ (by simp [head20, hw])).trans (by simp)
    cases q2 : leasedB a.want.hold a.til c <;> simp
    · exact (hfin { a with state := 2, left := 0 } (by simp [wd, alive, leased, q1, q2]) _ (by simp [head20, hw])).trans (by simp)
    · exact (hfin a (by simp [wd, alive, leased, q1, q2]) _ (by simp [head20, hw])).trans (by simp)
  · simp [head20]
  · unfold big; omega
  · simp
end Go.Proofs.Ytpicbkaloefjeaa
