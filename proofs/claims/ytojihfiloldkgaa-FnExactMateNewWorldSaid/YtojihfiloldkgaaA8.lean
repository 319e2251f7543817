/- Layer 8: worlds: what they must be. -/
import Derived.Test.YtojihfiloldkgaaA4
import Derived.Test.YtojihfiloldkgaaA6
namespace Go.Proofs.Ytojihfiloldkgaa
open Go
set_option linter.unusedSimpArgs false
set_option maxRecDepth 100000

def ascM (pre : List Mate) (m : Mate) : Bool :=
  match pre.getLast? with
  | none => true
  | some p => sLt p.name m.name
def matesGo (pre : List Mate) : List Mate → Bool
  | [] => true
  | m :: r => mateValid m && (ascM pre m && matesGo (pre ++ [m]) r)
def worldOk (w : Wld) : Bool := landOk w.land && (decide (1 ≤ w.mates.length) && (decide (w.mates.length ≤ 4) && (decide (w.flight.length ≤ 300) && matesGo [] w.mates)))

structure Wld.small (w : Wld) : Prop where
  land : w.land.small
  mates : w.mates.length ≤ 1048576
  each : ∀ m ∈ w.mates, m.small
  flight : w.flight.length ≤ 1048576

def head57 (w : Wld) (mm : Md) (i : Nat) : St := hd [(1, .ptr 0 0 0), (28, .sl .bor 9 (w.mates.map (Mate.c mm))), (29, .int .i64 w.mates.length), (30, .int .i64 i)] [.box (w.c .bor mm)] 0

def head58 (w : Wld) (mm : Md) (i : Nat) : St := hd [(1, .ptr 0 0 0), (3, .int .i64 i)] [.box (w.c .bor mm)] 0

theorem law58 (w : Wld) (mm : Md) (hw : w.small) : F 58 [.agg (w.c .bor mm)] [] = some (.bool (worldOk w), []) := by
  refine F_run fn58 rfl ?_
  have w1 := law24 w.land mm hw.land
  simp only [Land.c] at w1
  have hl := hw.mates
  have hf := hw.flight
  simp [c58, worldOk, w1, inR]
  cases q1 : landOk w.land <;> simp
  by_cases q2 : 1 ≤ w.mates.length
  case neg =>
    have q2' : ¬ (1 ≤ (w.mates.length : Int)) := by omega
    have q2a : (w.mates.length : Int) < 1 := by omega
    simp [q2, q2', q2a]
  have q2' : 1 ≤ (w.mates.length : Int) := by omega
  have q2a : ¬ ((w.mates.length : Int) < 1) := by omega
  simp [q2, q2', q2a]
  by_cases q3 : w.mates.length ≤ 4
  case neg =>
    have q3' : ¬ ((w.mates.length : Int) ≤ 4) := by omega
    have q3a : 4 < (w.mates.length : Int) := by omega
    simp [q3, q3', q3a]
  have q3' : (w.mates.length : Int) ≤ 4 := by omega
  have q3a : ¬ (4 < (w.mates.length : Int)) := by omega
  simp [q3, q3', q3a]
  by_cases q4 : w.flight.length ≤ 300
  case neg =>
    have q4' : ¬ ((w.flight.length : Int) ≤ 300) := by omega
    have q4a : 300 < (w.flight.length : Int) := by omega
    simp [q4, q4', q4a]
  have q4' : (w.flight.length : Int) ≤ 300 := by omega
  have q4a : ¬ (300 < (w.flight.length : Int)) := by omega
  simp [q4, q4', q4a]
  refine (loop_list w.mates (fun i (_ : Unit) => head58 w mm i) (fun _ _ => True) (fun i r _ => (.bool (matesGo (w.mates.take i) r), [])) (fun acc Y _ => ?_) (fun i a r acc Y ha hi hr _ hY => ?_) () ?_ trivial ?_).trans rfl
  · simp [head58, c58b0, matesGo]
  · have hw1 : IntKind.i64.wrap ((i : Int) + 1) = (i : Int) + 1 := i64w (by omega) (by omega)
    obtain ⟨_, hg⟩ := List.getElem?_eq_some_iff.1 ha
    have hs := take_snoc ha
    have w28 := law29 a (hw.each a (List.mem_of_getElem? ha))
    simp only [Mate.c] at w28
    have hY' : ∀ s', s'.norm [1, 3] = head58 w mm (i + 1) → fin [CRes.tmp 2] 0 (Y s') = some (.bool (matesGo (w.mates.take i ++ [a]) r), []) := fun s' h => by rw [← hs]; exact hY () s' trivial h
    rcases prevOr hi (by omega) with ⟨hp, hlast⟩ | ⟨j, hp, hw2, hj, hlast⟩
    · simp [head58, c58b0, matesGo, hg, hi, ascM, hp, hlast, w28]
      cases r1 : mateValid a <;> simp
      exact (hY' _ (by simp [head58, hw1])).trans (by simp)
    · simp [head58, c58b0, matesGo, hg, hi, ascM, hp, hw2, hj, hlast, w28]
      cases r1 : mateValid a <;> simp
      cases r2 : sLt w.mates[j].name a.name <;> simp
      exact (hY' _ (by simp [head58, hw1])).trans (by simp)
  · simp [head58]
  · unfold big; omega
end Go.Proofs.Ytojihfiloldkgaa
