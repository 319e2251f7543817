/- The laws' own equalities, at one thing and itself. -/
import Derived.Test.YtfebkfeobdffjaaA5
namespace Go.Proofs.Ytfebkfeobdffjaa
open Go
set_option linter.unusedSimpArgs false
set_option maxRecDepth 100000

theorem eqsWant (a : Want) : eqCells [.s, .i, .s, .i, .i, .i, .i] a.c a.c = some true := by simp [eqCells, eqCell]

def headWWant (m m' : Md) (xs : List Want) (i : Nat) : St := hd [(0, .sl m 7 (xs.map Want.c)), (1, .sl m' 7 (xs.map Want.c)), (5, .int .i64 i)] [] 0

theorem law118 (xs : List Want) (hl : xs.length ≤ 1048576) : F 118 [.sl .bor 7 (xs.map Want.c), .sl .bor 7 (xs.map Want.c)] [] = some (.bool true, []) := by
  refine F_run fn118 rfl ?_
  simp [c118]
  refine (loop_list xs (fun i (_ : Unit) => headWWant .bor .bor xs i) (fun _ _ => True) (fun _ _ _ => (.bool true, [])) (fun acc Y _ => ?_) (fun i a r acc Y ha hi hr _ hY => ?_) () ?_ trivial ?_).trans rfl
  · simp [headWWant, c118b0]
  · have hw : IntKind.i64.wrap ((i : Int) + 1) = (i : Int) + 1 := i64w (by omega) (by omega)
    obtain ⟨_, hg⟩ := List.getElem?_eq_some_iff.1 ha
    have he := eqsWant a
    simp only [Want.c] at he
    simp [headWWant, c118b0, hi, hg, he]
    refine hY () _ trivial ?_
    simp [headWWant, hw]
  · simp [headWWant]
  · unfold big; omega

theorem eqsRun (a : Run) : eqCells [.s, .i, .s, .i, .i, .i, .i, .i, .i, .i, .i] a.c a.c = some true := by simp [eqCells, eqCell]

def headWRun (m m' : Md) (xs : List Run) (i : Nat) : St := hd [(0, .sl m 11 (xs.map Run.c)), (1, .sl m' 11 (xs.map Run.c)), (5, .int .i64 i)] [] 0

theorem law31 (xs : List Run) (hl : xs.length ≤ 1048576) : F 31 [.sl .bor 11 (xs.map Run.c), .sl .bor 11 (xs.map Run.c)] [] = some (.bool true, []) := by
  refine F_run fn31 rfl ?_
  simp [c31]
  refine (loop_list xs (fun i (_ : Unit) => headWRun .bor .bor xs i) (fun _ _ => True) (fun _ _ _ => (.bool true, [])) (fun acc Y _ => ?_) (fun i a r acc Y ha hi hr _ hY => ?_) () ?_ trivial ?_).trans rfl
  · simp [headWRun, c31b0]
  · have hw : IntKind.i64.wrap ((i : Int) + 1) = (i : Int) + 1 := i64w (by omega) (by omega)
    obtain ⟨_, hg⟩ := List.getElem?_eq_some_iff.1 ha
    have he := eqsRun a
    simp only [Run.c] at he
    simp [headWRun, c31b0, hi, hg, he]
    refine hY () _ trivial ?_
    simp [headWRun, hw]
  · simp [headWRun]
  · unfold big; omega

theorem eqsAsk (a : Ask) : eqCells [.s, .s, .i, .i] a.c a.c = some true := by simp [eqCells, eqCell]

def headWAsk (m m' : Md) (xs : List Ask) (i : Nat) : St := hd [(0, .sl m 4 (xs.map Ask.c)), (1, .sl m' 4 (xs.map Ask.c)), (5, .int .i64 i)] [] 0

theorem law119 (xs : List Ask) (hl : xs.length ≤ 1048576) : F 119 [.sl .bor 4 (xs.map Ask.c), .sl .bor 4 (xs.map Ask.c)] [] = some (.bool true, []) := by
  refine F_run fn119 rfl ?_
  simp [c119]
  refine (loop_list xs (fun i (_ : Unit) => headWAsk .bor .bor xs i) (fun _ _ => True) (fun _ _ _ => (.bool true, [])) (fun acc Y _ => ?_) (fun i a r acc Y ha hi hr _ hY => ?_) () ?_ trivial ?_).trans rfl
  · simp [headWAsk, c119b0]
  · have hw : IntKind.i64.wrap ((i : Int) + 1) = (i : Int) + 1 := i64w (by omega) (by omega)
    obtain ⟨_, hg⟩ := List.getElem?_eq_some_iff.1 ha
    have he := eqsAsk a
    simp only [Ask.c] at he
    simp [headWAsk, c119b0, hi, hg, he]
    refine hY () _ trivial ?_
    simp [headWAsk, hw]
  · simp [headWAsk]
  · unfold big; omega

theorem law33 (m : Mate) (hm : m.small) : F 33 [.agg (m.c .bor), .agg (m.c .bor)] [] = some (.bool true, []) := by
  refine F_run fn33 rfl ?_
  have w1 := law118 m.wants hm.wants
  have w2 := law31 m.runs hm.runs
  have w3 := law119 m.asks hm.asks
  have w4 := law119 m.gives hm.gives
  simp [c33, w1, w2, w3, w4]
end Go.Proofs.Ytfebkfeobdffjaa
