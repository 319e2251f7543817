/- The laws' own helpers, on runs. -/
import Derived.Test.YtojihfiloldkgaaE1
namespace Go.Proofs.Ytojihfiloldkgaa
open Go
set_option linter.unusedSimpArgs false
set_option maxRecDepth 100000

def szRun (r : Run) (l : Int) : Int := if szWant r.want l < 0 then -1 else szWant r.want l
def szRunGo : List Run → Int → Int
  | [], l => l
  | w :: r, l => if szRun w l < 0 then -1 else szRunGo r (szRun w l)
def szRuns (ws : List Run) (l : Int) : Int := if off l ws.length < 0 then -1 else szRunGo ws (off l ws.length)

theorem law86 (r : Run) : F 86 [.agg r.c, .agg r.c] [] = some (.bool true, []) := by
  refine F_run fn86 rfl ?_
  have h := law83 r.want
  simp only [Want.c] at h
  simp [c86, h]

def headToRun (ws : List Run) (i : Nat) : St := hd [(0, .sl .bor 11 (ws.map Run.c)), (3, .ref 0), (4, .int .i64 i)] [.arr 11 (fillU Run.c [.str ⟨#[]⟩, .int .i64 0, .str ⟨#[]⟩, .int .i64 0, .int .i64 0, .int .i64 0, .int .i64 0, .int .i64 0, .int .i64 0, .int .i64 0, .int .i64 0] ws i)] 0

def headSzRun (ws : List Run) (l : Int) (i : Nat) : St := hd [(0, .sl .bor 11 (ws.map Run.c)), (1, .int .i64 l), (5, .int .i64 i)] [] 0

def headEqRun (ws : List Run) (i : Nat) : St := hd [(0, .sl .bor 11 (ws.map Run.c)), (1, .sl .bor 11 (ws.map Run.c)), (5, .int .i64 i)] [] 0

theorem law10 (ws : List Run) (hl : ws.length < big) : F 10 [.sl .bor 11 (ws.map Run.c), .sl .bor 11 (ws.map Run.c)] [] = some (.bool true, []) := by
  refine F_run fn10 rfl ?_
  have hm : ws.length ≤ 9223372036854775807 := by unfold big at hl; omega
  simp [c10]
  refine (loop_list ws (fun i (_ : Unit) => headEqRun ws i) (fun _ _ => True) (fun _ r l => (.bool true, [])) (fun acc Y _ => ?_) (fun i a r acc Y ha hi hr _ hY => ?_) () ?_ trivial ?_).trans rfl
  · simp [headEqRun, c10b0]
  · have hw : IntKind.i64.wrap ((i : Int) + 1) = (i : Int) + 1 := i64w (by omega) (by omega)
    obtain ⟨_, hg⟩ := List.getElem?_eq_some_iff.1 ha
    have h1 := law86 a
    simp only [Run.c] at h1
    simp [headEqRun, c10b0, hi, hg, h1]
    rw [hY () _ trivial]
    simp [headEqRun, hw]
  · simp [headEqRun]
  · exact hl


theorem szRuns_len {ws : List Run} {l : Int} (h : 0 ≤ szRuns ws l) (hl : ws.length ≤ 9223372036854775807) (h0 : 0 ≤ l) (hx : l ≤ 1048576) : ws.length ≤ 1048576 := by
  unfold szRuns at h
  by_cases h2 : IntKind.i64.wrap (l - ws.length) < 0
  · rw [off_neg h2] at h; simp at h
  · exact wrap_len h2 hl h0 hx
end Go.Proofs.Ytojihfiloldkgaa
