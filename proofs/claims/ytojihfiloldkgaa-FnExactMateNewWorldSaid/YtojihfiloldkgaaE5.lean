/- The laws' own helpers, on asks and mates. -/
import Derived.Test.YtojihfiloldkgaaE2
import Derived.Test.YtojihfiloldkgaaA4
namespace Go.Proofs.Ytojihfiloldkgaa
open Go
set_option linter.unusedSimpArgs false
set_option maxRecDepth 100000

def szAsk (a : Ask) (l : Int) : Int := offs l [a.hold.size, a.copy.size]
def szAskGo : List Ask → Int → Int
  | [], l => l
  | w :: r, l => if szAsk w l < 0 then -1 else szAskGo r (szAsk w l)
def szAsks (ws : List Ask) (l : Int) : Int := if off l ws.length < 0 then -1 else szAskGo ws (off l ws.length)

theorem law154 (w : Ask) : F 154 [.agg w.c, .agg w.c] [] = some (.bool true, []) := by
  refine F_run fn154 rfl ?_
  simp [c154]

def headToAsk (ws : List Ask) (i : Nat) : St := hd [(0, .sl .bor 4 (ws.map Ask.c)), (3, .ref 0), (4, .int .i64 i)] [.arr 4 (fillU Ask.c [.str ⟨#[]⟩, .str ⟨#[]⟩, .int .i64 0, .int .i64 0] ws i)] 0

def headSzAsk (ws : List Ask) (l : Int) (i : Nat) : St := hd [(0, .sl .bor 4 (ws.map Ask.c)), (1, .int .i64 l), (5, .int .i64 i)] [] 0

def headEqAsk (ws : List Ask) (i : Nat) : St := hd [(0, .sl .bor 4 (ws.map Ask.c)), (1, .sl .bor 4 (ws.map Ask.c)), (5, .int .i64 i)] [] 0

theorem law115 (ws : List Ask) (hl : ws.length < big) : F 115 [.sl .bor 4 (ws.map Ask.c), .sl .bor 4 (ws.map Ask.c)] [] = some (.bool true, []) := by
  refine F_run fn115 rfl ?_
  have hm : ws.length ≤ 9223372036854775807 := by unfold big at hl; omega
  simp [c115]
  refine (loop_list ws (fun i (_ : Unit) => headEqAsk ws i) (fun _ _ => True) (fun _ r l => (.bool true, [])) (fun acc Y _ => ?_) (fun i a r acc Y ha hi hr _ hY => ?_) () ?_ trivial ?_).trans rfl
  · simp [headEqAsk, c115b0]
  · have hw : IntKind.i64.wrap ((i : Int) + 1) = (i : Int) + 1 := i64w (by omega) (by omega)
    obtain ⟨_, hg⟩ := List.getElem?_eq_some_iff.1 ha
    have h1 := law154 a
    simp only [Ask.c] at h1
    simp [headEqAsk, c115b0, hi, hg, h1]
    rw [hY () _ trivial]
    simp [headEqAsk, hw]
  · simp [headEqAsk]
  · exact hl


theorem law27 (m : Mate) (hm : m.small) : F 27 [.agg (m.c .bor), .agg (m.c .bor)] [] = some (.bool true, []) := by
  refine F_run fn27 rfl ?_
  have b1 : m.wants.length < big := by unfold big; have := hm.wants; omega
  have b2 : m.runs.length < big := by unfold big; have := hm.runs; omega
  have b3 : m.asks.length < big := by unfold big; have := hm.asks; omega
  have b4 : m.gives.length < big := by unfold big; have := hm.gives; omega
  simp [c27, law5 m.wants b1, law10 m.runs b2, law115 m.asks b3, law115 m.gives b4]
end Go.Proofs.Ytojihfiloldkgaa
