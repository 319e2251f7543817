/- The laws' own helpers, on asks and mates. -/
import Derived.Test.YtgeingajanamnaaE2
import Derived.Test.YtgeingajanamnaaA4
namespace Go.Proofs.Ytgeingajanamnaa
open Go
set_option linter.unusedSimpArgs false
set_option maxRecDepth 100000

def szAsk (a : Ask) (l : Int) : Int := offs l [a.hold.size, a.copy.size]
def szAskGo : List Ask → Int → Int
  | [], l => l
  | w :: r, l => if szAsk w l < 0 then -1 else szAskGo r (szAsk w l)
def szAsks (ws : List Ask) (l : Int) : Int := if off l ws.length < 0 then -1 else szAskGo ws (off l ws.length)

theorem law152 (w : Ask) (l : Int) : F 152 [.agg w.c, .int .i64 l] [] = some (.int .i64 (szAsk w l), []) := by
  refine F_run fn152 rfl ?_
  simp [c152, szAsk, offs]
  by_cases h1 : IntKind.i64.wrap (l - w.hold.size) < 0
  · simp [h1, off_neg h1]
  · rw [off_pos h1]
    by_cases h2 : IntKind.i64.wrap (IntKind.i64.wrap (l - w.hold.size) - w.copy.size) < 0
    · simp [h1, h2, off_neg h2]
    · simp [h1, h2, off_pos h2]

theorem law153 (w : Ask) : F 153 [.agg w.c] [] = some (.agg w.c, []) := by
  refine F_run fn153 rfl ?_
  simp [c153]

theorem law154 (w : Ask) : F 154 [.agg w.c, .agg w.c] [] = some (.bool true, []) := by
  refine F_run fn154 rfl ?_
  simp [c154]

def headToAsk (ws : List Ask) (i : Nat) : St := hd [(0, .sl .bor 4 (ws.map Ask.c)), (3, .ref 0), (4, .int .i64 i)] [.arr 4 (fillU Ask.c [.str ⟨#[]⟩, .str ⟨#[]⟩, .int .i64 0, .int .i64 0] ws i)] 0

theorem law112 (ws : List Ask) (hl : ws.length ≤ 1048576) : F 112 [.sl .bor 4 (ws.map Ask.c)] [] = some (.sl .own 4 (ws.map Ask.c), []) := by
  refine F_run fn112 rfl ?_
  have hb : (ws.length : Int) * 48 ≤ 140737488355328 := by omega
  simp [c112, hb]
  refine (loop_list ws (fun i (_ : Unit) => headToAsk ws i) (fun _ _ => True) (fun _ _ _ => (.sl .own 4 (ws.map Ask.c), [])) (fun acc Y _ => ?_) (fun i a r acc Y ha hi hr _ hY => ?_) () ?_ trivial ?_).trans rfl
  · simp [headToAsk, c112b0, fillU_all]
  · have hw : IntKind.i64.wrap ((i : Int) + 1) = (i : Int) + 1 := i64w (by omega) (by omega)
    obtain ⟨_, hg⟩ := List.getElem?_eq_some_iff.1 ha
    have h1 := law153 a
    simp only [Ask.c] at h1
    simp [headToAsk, c112b0, hi, hg, h1]
    rw [hY () _ trivial]
    have h2 := fillU_set Ask.c [.str ⟨#[]⟩, .str ⟨#[]⟩, .int .i64 0, .int .i64 0] ha
    simp only [Ask.c] at h2
    simp [headToAsk, hw, h2]
  · simp [headToAsk, fillU_zero]
  · unfold big; omega


def headSzAsk (ws : List Ask) (l : Int) (i : Nat) : St := hd [(0, .sl .bor 4 (ws.map Ask.c)), (1, .int .i64 l), (5, .int .i64 i)] [] 0

theorem law109 (ws : List Ask) (l : Int) (hl : ws.length ≤ 9223372036854775807) (h0 : 0 ≤ l) (hx : l ≤ 1048576) : F 109 [.sl .bor 4 (ws.map Ask.c), .int .i64 l] [] = some (.int .i64 (szAsks ws l), []) := by
  refine F_run fn109 rfl ?_
  simp [c109, szAsks]
  by_cases h1 : IntKind.i64.wrap (l - ws.length) < 0
  · simp [h1, off_neg h1]
  · rw [off_pos h1]
    have h2 : ¬ (IntKind.i64.wrap (l - ws.length) < 0) := h1
    have hn : ws.length ≤ 1048576 := wrap_len h1 hl h0 hx
    simp [h1]
    refine (loop_list ws (fun i (l : Int) => headSzAsk ws l i) (fun _ _ => True) (fun _ r l => (.int .i64 (szAskGo r l), [])) (fun acc Y _ => ?_) (fun i a r acc Y ha hi hr _ hY => ?_) _ ?_ trivial ?_).trans rfl
    · simp [headSzAsk, c109b0, szAskGo]
    · have hw : IntKind.i64.wrap ((i : Int) + 1) = (i : Int) + 1 := i64w (by omega) (by omega)
      obtain ⟨_, hg⟩ := List.getElem?_eq_some_iff.1 ha
      have h1 := law152 a acc
      simp only [Ask.c] at h1
      simp [headSzAsk, c109b0, hi, hg, h1, szAskGo]
      by_cases h3 : szAsk a acc < 0
      · simp [h3]
      · simp [h3]
        rw [hY _ _ trivial]
        simp [headSzAsk, hw]
    · simp [headSzAsk]
    · unfold big; omega


def headEqAsk (ws : List Ask) (i : Nat) : St := hd [(0, .sl .bor 4 (ws.map Ask.c)), (1, .sl .bor 4 (ws.map Ask.c)), (5, .int .i64 i)] [] 0

theorem law115 (ws : List Ask) (hl : ws.length < big) : F 115 [.sl .bor 4 (ws.map Ask.c), .sl .bor 4 (ws.map Ask.c)] [] = some (.bool true, []) := by
  refine F_run fn115 rfl ?_
  have hm : ws.length ≤ 9223372036854775807 := by unfold big at hl; omega
  simp [c115]
  refine (loop_list ws (fun i (_ : Unit) => headEqAsk ws i) (fun _ _ => True) (fun _ r l => (.bool true, [])) (fun acc Y _ => ?_) (fun i a r acc Y ha hi hr _ hY => ?_) () ?_ trivial ?_).trans rfl
  · simp [headEqAsk, c115b0]
  · have hw : IntKind.i64.wrap ((i : Int) + 1) = (i : Int) + 1 := i64w (by omega) (by omega)
    obtain ⟨_, hg⟩ := List.getElem?_eq_some_iff.1 ha
    have h1 := law154 a
    simp only [Ask.c] at h1
    simp [headEqAsk, c115b0, hi, hg, h1]
    rw [hY () _ trivial]
    simp [headEqAsk, hw]
  · simp [headEqAsk]
  · exact hl


theorem law26 (m : Mate) (hm : m.small) : F 26 [.agg (m.c .bor)] [] = some (.agg (m.c .own), []) := by
  refine F_run fn26 rfl ?_
  simp [c26, law4 m.wants hm.wants, law9 m.runs hm.runs, law112 m.asks hm.asks, law112 m.gives hm.gives]

theorem law27 (m : Mate) (hm : m.small) : F 27 [.agg (m.c .bor), .agg (m.c .bor)] [] = some (.bool true, []) := by
  refine F_run fn27 rfl ?_
  have b1 : m.wants.length < big := by unfold big; have := hm.wants; omega
  have b2 : m.runs.length < big := by unfold big; have := hm.runs; omega
  have b3 : m.asks.length < big := by unfold big; have := hm.asks; omega
  have b4 : m.gives.length < big := by unfold big; have := hm.gives; omega
  simp [c27, law5 m.wants b1, law10 m.runs b2, law115 m.asks b3, law115 m.gives b4]
end Go.Proofs.Ytgeingajanamnaa
