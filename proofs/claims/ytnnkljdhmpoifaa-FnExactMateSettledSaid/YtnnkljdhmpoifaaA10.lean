/- Layer 8: has a world settled? -/
import Derived.Test.YtnnkljdhmpoifaaA8
import Derived.Test.YtnnkljdhmpoifaaA2
import Derived.Test.YtnnkljdhmpoifaaA5
namespace Go.Proofs.Ytnnkljdhmpoifaa
open Go
set_option linter.unusedSimpArgs false
set_option maxRecDepth 100000

def eqWant (a b : Want) : Bool := sEq a.copy b.copy && (a.version == b.version && (sEq a.hold b.hold && (a.pull == b.pull && (a.start == b.start && (a.dies == b.dies && a.grace == b.grace)))))
theorem eqWant_iff (a b : Want) : eqWant a b = true ↔ a = b := by
  cases a; cases b
  simp [eqWant, sEq_iff]

@[simp] theorem eqCells_want (s1 : T) (n1 : Int) (h1 : T) (p1 q1 d1 g1 : Int) (s2 : T) (n2 : Int) (h2 : T) (p2 q2 d2 g2 : Int) :
    eqCells [.s, .i, .s, .i, .i, .i, .i] [.str s1, .int .i64 n1, .str h1, .int .i64 p1, .int .i64 q1, .int .i64 d1, .int .i64 g1] [.str s2, .int .i64 n2, .str h2, .int .i64 p2, .int .i64 q2, .int .i64 d2, .int .i64 g2] =
      some (eqWant ⟨s1, n1, h1, p1, q1, d1, g1⟩ ⟨s2, n2, h2, p2, q2, d2, g2⟩) := by
  simp only [eqCells, eqCell, eqWant, if_true, List.length_cons, List.length_nil, and_self]
  cases sEq s1 s2 <;> simp only [Bool.false_and, Bool.true_and]
  cases n1 == n2 <;> simp only [Bool.false_and, Bool.true_and]
  cases sEq h1 h2 <;> simp only [Bool.false_and, Bool.true_and]
  cases p1 == p2 <;> simp only [Bool.false_and, Bool.true_and]
  cases q1 == q2 <;> simp only [Bool.false_and, Bool.true_and]
  cases d1 == d2 <;> simp only [Bool.false_and, Bool.true_and]
  cases g1 == g2 <;> rfl

def sameGo : List Want → List Want → Bool
  | a :: as, b :: bs => eqWant a b && sameGo as bs
  | _, _ => true
def sameWants (a b : List Want) : Bool := decide (a.length = b.length) && sameGo a b

def head138 (a b : List Want) (i : Nat) : St := hd [(0, .sl .bor 7 (a.map Want.c)), (1, .sl .bor 7 (b.map Want.c)), (5, .int .i64 i)] [] 0

theorem law138 (a b : List Want) (ha : a.length ≤ 1048576) (_ : b.length ≤ 1048576) : F 138 [.sl .bor 7 (a.map Want.c), .sl .bor 7 (b.map Want.c)] [] = some (.bool (sameWants a b), []) := by
  refine F_run fn138 rfl ?_
  simp [c138, sameWants]
  by_cases hl : a.length = b.length
  case neg =>
    have hl' : ¬ ((a.length : Int) = b.length) := by omega
    simp [hl, hl']
  simp [hl]
  refine (loop_list a (fun i (_ : Unit) => head138 a b i) (fun _ _ => True) (fun i r _ => (.bool (sameGo r (b.drop i)), [])) (fun acc Y _ => ?_) (fun i x r acc Y hx hi hr _ hY => ?_) () ?_ trivial ?_).trans (by simp)
  · simp [head138, c138b0, sameGo]
  · have hw : IntKind.i64.wrap ((i : Int) + 1) = (i : Int) + 1 := i64w (by omega) (by omega)
    obtain ⟨_, hg⟩ := List.getElem?_eq_some_iff.1 hx
    have hi2 : i < b.length := by omega
    have hd : b.drop i = b[i] :: b.drop (i + 1) := List.drop_eq_getElem_cons hi2
    rw [hd]
    simp [head138, c138b0, sameGo, hg, hi, hi2]
    cases q : eqWant x b[i] <;> simp
    exact hY () _ trivial (by simp [head138, hw])
  · simp [head138]
  · unfold big; omega

/-- What a berth is to run: of the last place of its name. -/
def wantsFor (name : T) (acc : List Want) : List Place → List Want
  | [] => acc
  | p :: r => wantsFor name (if sEq p.berth name then p.wants else acc) r
def runsAre : List Run → List Want → Bool
  | r :: rs, w :: ws => eqWant r.want w && (r.state == 4 && runsAre rs ws)
  | _, _ => true
def settledRuns (up : Bool) (rs : List Run) (ws : List Want) : Bool := up && (decide (rs.length = ws.length) && runsAre rs ws)
def settledMate (ps : List Place) (m : Mate) : Bool := settledRuns m.up m.runs (wantsFor m.name [] ps)
def settled (w : Wld) : Bool := worldOk w && w.mates.all (settledMate w.land.places)

def wantV (acc : Option (List Want)) : AV := match acc with
  | none => .sl .own 7 []
  | some ws => .sl .bor 7 (ws.map Want.c)

def head68m (w : Wld) (mm : Md) (i : Nat) : St := hd [(1, .ptr 0 0 0), (14, .sl .bor 9 (w.mates.map (Mate.c mm))), (15, .int .i64 w.mates.length), (16, .int .i64 i)] [.box (w.c .bor mm)] 0
def head68p (w : Wld) (mm : Md) (i : Nat) (m : Mate) (j : Nat) (acc : Option (List Want)) : St := hd [(1, .ptr 0 0 0), (4, .ptr 1 0 0), (5, wantV acc), (14, .sl .bor 9 (w.mates.map (Mate.c mm))), (15, .int .i64 w.mates.length), (16, .int .i64 i), (22, .sl .bor 3 (w.land.places.map (Place.c mm))), (23, .int .i64 w.land.places.length), (24, .int .i64 j)] [.box (w.c .bor mm), .box (m.c .bor)] 0
def head68r (w : Wld) (mm : Md) (i : Nat) (m : Mate) (ws : List Want) (j : Nat) : St := hd [(1, .ptr 0 0 0), (5, .sl .bor 7 (ws.map Want.c)), (14, .sl .bor 9 (w.mates.map (Mate.c mm))), (15, .int .i64 w.mates.length), (16, .int .i64 i), (48, .sl .bor 11 (m.runs.map Run.c)), (49, .int .i64 m.runs.length), (50, .int .i64 j)] [.box (w.c .bor mm)] 0
def head68e (w : Wld) (mm : Md) (i : Nat) : St := hd [(1, .ptr 0 0 0), (5, .sl .own 7 []), (14, .sl .bor 9 (w.mates.map (Mate.c mm))), (15, .int .i64 w.mates.length), (16, .int .i64 i), (48, .sl .bor 11 []), (49, .int .i64 0), (50, .int .i64 0)] [.box (w.c .bor mm)] 0

theorem law68 (w : Wld) (mm : Md) (hw : w.small) : F 68 [.agg (w.c .bor mm)] [] = some (.bool (settled w), []) := by
  refine F_run fn68 rfl ?_
  have w1 := law57 w mm hw
  simp only [Wld.c] at w1
  have hl := hw.mates
  have hlp := hw.land.places
  simp only [settled]
  simp [c68, w1]
  cases q1 : worldOk w <;> simp
  refine (loop_list w.mates (fun i (_ : Unit) => head68m w mm i) (fun _ _ => True) (fun _ r _ => (.bool (r.all (settledMate w.land.places)), [])) (fun acc Y _ => ?_) (fun i a r acc Y ha hi hr _ hY => ?_) () ?_ trivial ?_).trans (by simp)
  · simp [head68m, c68b2]
  · have hw1 : IntKind.i64.wrap ((i : Int) + 1) = (i : Int) + 1 := i64w (by omega) (by omega)
    obtain ⟨_, hg⟩ := List.getElem?_eq_some_iff.1 ha
    have hrs := (hw.each a (List.mem_of_getElem? ha)).runs
    simp only [List.all_cons]
    simp [head68m, c68b2, hg, hi]
    refine (loop_list w.land.places (fun j (acc : Option (List Want)) => head68p w mm i a j acc) (fun _ acc => ∀ ws, acc = some ws → ws.length ≤ 1048576) (fun _ t acc => (.bool (settledRuns a.up a.runs (wantsFor a.name (acc.getD []) t) && r.all (settledMate w.land.places)), [])) (fun acc Z hacc => ?_) (fun j p t acc Z hp hj ht hacc hZ => ?_) none ?_ (fun ws h => by cases h) ?_).trans (by simp [settledMate])
    · simp only [wantsFor, settledRuns]
      cases q2 : a.up
      · rcases acc with _ | ws <;> simp [head68p, c68b0, q2]
      rcases acc with _ | ws
      · by_cases q3 : a.runs = []
        · simp [head68p, c68b0, wantV, q2, q3]
          refine (loop_list ([] : List Run) (fun _ (_ : Unit) => head68e w mm i) (fun _ _ => True) (fun _ _ _ => (.bool (r.all (settledMate w.land.places)), [])) (fun acc V _ => ?_) (fun jj b u acc V hb _ _ _ _ => by simp at hb) () ?_ trivial ?_).trans (by simp [runsAre])
          · simp [head68e, c68b1]
            exact (hY () _ trivial (by simp [head68m, hw1])).trans (by simp)
          · simp [head68e]
          · unfold big; simp
        · have q4 : ¬ (a.runs.length = 0) := fun h => q3 (List.length_eq_zero_iff.1 h)
          simp [head68p, c68b0, wantV, q2, q3, q4]
      · have hws := hacc ws rfl
        by_cases q3 : a.runs.length = ws.length
        case neg =>
          have q4 : ¬ ((a.runs.length : Int) = ws.length) := by omega
          simp [head68p, c68b0, wantV, q2, q3, q4]
        simp [head68p, c68b0, wantV, q2, q3]
        refine (loop_list a.runs (fun j (_ : Unit) => head68r w mm i a ws j) (fun _ _ => True) (fun j t _ => (.bool (runsAre t (ws.drop j) && r.all (settledMate w.land.places)), [])) (fun acc V _ => ?_) (fun jj b u acc V hb hjj hu _ hV => ?_) () ?_ trivial ?_).trans (by simp)
        · simp [head68r, c68b1, runsAre]
          exact (hY () _ trivial (by simp [head68m, hw1])).trans (by simp)
        · have hwj : IntKind.i64.wrap ((jj : Int) + 1) = (jj : Int) + 1 := i64w (by omega) (by omega)
          obtain ⟨_, hgb⟩ := List.getElem?_eq_some_iff.1 hb
          have hj2 : jj < ws.length := by omega
          have hd : ws.drop jj = ws[jj] :: ws.drop (jj + 1) := List.drop_eq_getElem_cons hj2
          rw [hd]
          simp only [runsAre]
          simp [head68r, c68b1, hjj, hgb, hj2]
          cases q5 : eqWant b.want ws[jj] <;> simp
          by_cases q6 : b.state = 4 <;> simp [q6]
          exact (hV () _ trivial (by simp [head68r, hwj])).trans (by simp)
        · simp [head68r, q3]
        · unfold big; omega
    · have hwj : IntKind.i64.wrap ((j : Int) + 1) = (j : Int) + 1 := i64w (by omega) (by omega)
      obtain ⟨_, hgp⟩ := List.getElem?_eq_some_iff.1 hp
      have hpw := (hw.land.each p (List.mem_of_getElem? hp)).wants
      simp only [wantsFor]
      rcases acc with _ | ws
      all_goals
        simp [head68p, c68b0, wantV, hj, hgp]
        cases q2 : sEq p.berth a.name <;> simp
        · refine (hZ _ _ hacc (by simp [head68p, hwj, wantV])).trans (by simp)
        · refine (hZ (some p.wants) _ (fun ws h => by cases h; exact hpw) (by simp [head68p, hwj, wantV])).trans (by simp)
    · simp [head68p, wantV]
    · unfold big; omega
  · simp [head68m]
  · unfold big; omega

theorem runsAre_same : ∀ (rs : List Run) (ws : List Want), rs.length = ws.length → (rs.all (fun r => r.state == 4) && sameGo (rs.map Run.want) ws) = runsAre rs ws
  | [], [], _ => rfl
  | r :: rs, w :: ws, h => by
    have ih := runsAre_same rs ws (by simpa using h)
    simp only [List.all_cons, List.map_cons, sameGo, runsAre, ← ih]
    cases r.state == 4 <;> cases eqWant r.want w <;> cases rs.all (fun r => r.state == 4) <;> rfl
  | [], _ :: _, h => by simp at h
  | _ :: _, [], h => by simp at h

theorem settled_same (up : Bool) (rs : List Run) (ws : List Want) : (rs.all (fun r => r.state == 4) && (up && sameWants (rs.map Run.want) ws)) = settledRuns up rs ws := by
  unfold sameWants settledRuns
  rw [List.length_map]
  by_cases h : rs.length = ws.length
  · rw [← runsAre_same rs ws h]
    cases up <;> simp [h]
  · cases up <;> simp [h]

def head69m (w : Wld) (mm : Md) (i : Nat) : St := hd [(1, .ptr 0 0 0), (3, .int .i64 i)] [.box (w.c .bor mm)] 0
def wantV2 (acc : Option (List Want)) : AV := match acc with
  | none => .ref 2
  | some ws => .sl .bor 7 (ws.map Want.c)
def wantH2 (acc : Option (List Want)) : List AO := match acc with
  | none => [.arr 7 []]
  | some _ => []
def haveV (acc : Option (List Want)) : AV := match acc with
  | none => .ref 3
  | some _ => .ref 2
def head69p (w : Wld) (mm : Md) (i : Nat) (m : Mate) (j : Nat) (acc : Option (List Want)) : St := hd [(1, .ptr 0 0 0), (3, .int .i64 i), (4, .ptr 1 0 0), (5, wantV2 acc), (6, .int .i64 j)] (.box (w.c .bor mm) :: .box (m.c .bor) :: wantH2 acc) 0
def head69r (w : Wld) (mm : Md) (i : Nat) (m : Mate) (j : Nat) (acc : Option (List Want)) (hv : List Want) : St := hd [(1, .ptr 0 0 0), (3, .int .i64 i), (4, .ptr 1 0 0), (5, wantV2 acc), (7, haveV acc), (8, .int .i64 j)] (.box (w.c .bor mm) :: .box (m.c .bor) :: (wantH2 acc ++ [.arr 7 (hv.map Want.c)])) 0

theorem law69 (w : Wld) (mm : Md) (hw : w.small) : F 69 [.agg (w.c .bor mm)] [] = some (.bool (settled w), []) := by
  refine F_run fn69 rfl ?_
  have w1 := law58 w mm hw
  simp only [Wld.c] at w1
  have hl := hw.mates
  have hlp := hw.land.places
  simp only [settled]
  simp [c69, w1]
  cases q1 : worldOk w <;> simp
  refine (loop_list w.mates (fun i (_ : Unit) => head69m w mm i) (fun _ _ => True) (fun _ r _ => (.bool (r.all (settledMate w.land.places)), [])) (fun acc Y _ => ?_) (fun i a r acc Y ha hi hr _ hY => ?_) () ?_ trivial ?_).trans (by simp)
  · simp [head69m, c69b2]
  · have hw1 : IntKind.i64.wrap ((i : Int) + 1) = (i : Int) + 1 := i64w (by omega) (by omega)
    obtain ⟨_, hg⟩ := List.getElem?_eq_some_iff.1 ha
    have hrs := (hw.each a (List.mem_of_getElem? ha)).runs
    simp only [List.all_cons]
    simp [head69m, c69b2, hg, hi]
    refine (loop_list w.land.places (fun j (acc : Option (List Want)) => head69p w mm i a j acc) (fun _ acc => ∀ ws, acc = some ws → ws.length ≤ 1048576) (fun _ t acc => (.bool (settledRuns a.up a.runs (wantsFor a.name (acc.getD []) t) && r.all (settledMate w.land.places)), [])) (fun acc Z hacc => ?_) (fun j p t acc Z hp hj ht hacc hZ => ?_) none ?_ (fun ws h => by cases h) ?_).trans (by simp [settledMate])
    · simp only [wantsFor]
      rw [← settled_same]
      have hws : (acc.getD []).length ≤ 1048576 := by
        rcases acc with _ | ws
        · simp
        · exact hacc ws rfl
      rcases acc with _ | ws
      · simp only [Option.getD_none] at hws ⊢
        simp [head69p, c69b0, wantV2, wantH2]
        refine (loop_list a.runs (fun j (hv : List Want) => head69r w mm i a j none hv) (fun j hv => hv.length = j) (fun _ t hv => (.bool ((t.all (fun r => r.state == 4) && (a.up && sameWants (hv ++ t.map Run.want) [])) && r.all (settledMate w.land.places)), [])) (fun hv V hhv => ?_) (fun jj b u hv V hb hjj hu hhv hV => ?_) [] ?_ rfl ?_).trans (by simp)
        · have w138 := law138 hv [] (by omega) hws
          try simp only [List.map_nil] at w138
          simp [head69r, c69b1, wantV2, wantH2, haveV, w138]
          cases q2 : a.up <;> simp
          cases q3 : sameWants hv [] <;> simp
          exact (hY () _ trivial (by simp [head69m, hw1])).trans (by simp)
        · have hwj : IntKind.i64.wrap ((jj : Int) + 1) = (jj : Int) + 1 := i64w (by omega) (by omega)
          obtain ⟨_, hgb⟩ := List.getElem?_eq_some_iff.1 hb
          have hb3 : (hv.length + 1) * 72 ≤ 140737488355328 := by omega
          have hb4 : hv.length + 1 ≤ 140737488355328 := by omega
          simp only [List.all_cons]
          simp [head69r, c69b1, wantV2, wantH2, haveV, hjj, hgb, takeRows, rowsPlain, hb3, hb4]
          by_cases q6 : b.state = 4 <;> simp [q6]
          exact (hV (hv ++ [b.want]) _ (by simp [hhv]) (by simp [head69r, hwj, wantV2, wantH2, haveV])).trans (by simp)
        · simp [head69r, wantV2, wantH2, haveV]
        · unfold big; omega
      · simp only [Option.getD_some] at hws ⊢
        simp [head69p, c69b0, wantV2, wantH2]
        refine (loop_list a.runs (fun j (hv : List Want) => head69r w mm i a j (some ws) hv) (fun j hv => hv.length = j) (fun _ t hv => (.bool ((t.all (fun r => r.state == 4) && (a.up && sameWants (hv ++ t.map Run.want) ws)) && r.all (settledMate w.land.places)), [])) (fun hv V hhv => ?_) (fun jj b u hv V hb hjj hu hhv hV => ?_) [] ?_ rfl ?_).trans (by simp)
        · have w138 := law138 hv ws (by omega) hws
          try simp only [List.map_nil] at w138
          simp [head69r, c69b1, wantV2, wantH2, haveV, w138]
          cases q2 : a.up <;> simp
          cases q3 : sameWants hv ws <;> simp
          exact (hY () _ trivial (by simp [head69m, hw1])).trans (by simp)
        · have hwj : IntKind.i64.wrap ((jj : Int) + 1) = (jj : Int) + 1 := i64w (by omega) (by omega)
          obtain ⟨_, hgb⟩ := List.getElem?_eq_some_iff.1 hb
          have hb3 : (hv.length + 1) * 72 ≤ 140737488355328 := by omega
          have hb4 : hv.length + 1 ≤ 140737488355328 := by omega
          simp only [List.all_cons]
          simp [head69r, c69b1, wantV2, wantH2, haveV, hjj, hgb, takeRows, rowsPlain, hb3, hb4]
          by_cases q6 : b.state = 4 <;> simp [q6]
          exact (hV (hv ++ [b.want]) _ (by simp [hhv]) (by simp [head69r, hwj, wantV2, wantH2, haveV])).trans (by simp)
        · simp [head69r, wantV2, wantH2, haveV]
        · unfold big; omega
    · have hwj : IntKind.i64.wrap ((j : Int) + 1) = (j : Int) + 1 := i64w (by omega) (by omega)
      obtain ⟨_, hgp⟩ := List.getElem?_eq_some_iff.1 hp
      have hpw := (hw.land.each p (List.mem_of_getElem? hp)).wants
      simp only [wantsFor]
      rcases acc with _ | ws
      all_goals
        simp [head69p, c69b0, wantV2, wantH2, hj, hgp]
        cases q2 : sEq p.berth a.name <;> simp
        · refine (hZ _ _ hacc (by simp [head69p, hwj, wantV2, wantH2])).trans (by simp)
        · refine (hZ (some p.wants) _ (fun ws h => by cases h; exact hpw) (by simp [head69p, hwj, wantV2, wantH2])).trans (by simp)
    · simp [head69p, wantV2, wantH2]
    · unfold big; omega
  · simp [head69m]
  · unfold big; omega
end Go.Proofs.Ytnnkljdhmpoifaa
