/- Layer 8: has a world settled? -/
import Derived.Test.YtfebkfeobdffjaaA8
import Derived.Test.YtfebkfeobdffjaaA2
import Derived.Test.YtfebkfeobdffjaaA5
namespace Go.Proofs.Ytfebkfeobdffjaa
open Go
set_option linter.unusedSimpArgs false
set_option maxRecDepth 100000

def eqWant (a b : Want) : Bool := sEq a.copy b.copy && (a.version == b.version && (sEq a.hold b.hold && (a.pull == b.pull && (a.start == b.start && (a.dies == b.dies && a.grace == b.grace)))))
theorem eqWant_iff (a b : Want) : eqWant a b = true ↔ a = b := by
  cases a; cases b
  simp [eqWant, sEq_iff]

@[simp] theorem eqCells_want (s1 : T) (n1 : Int) (h1 : T) (p1 q1 d1 g1 : Int) (s2 : T) (n2 : Int) (h2 : T) (p2 q2 d2 g2 : Int) :
    eqCells [.s, .i, .s, .i, .i, .i, .i] [.str s1, .int .i64 n1, .str h1, .int .i64 p1, .int .i64 q1, .int .i64 d1, .int .i64 g1] [.str s2, .int .i64 n2, .str h2, .int .i64 p2, .int .i64 q2, .int .i64 d2, .int .i64 g2] =
      some (eqWant ⟨s1, n1, h1, p1, q1, d1, g1⟩ ⟨s2, n2, h2, p2, q2, d2, g2⟩) := by
  simp only [eqCells, eqCell, eqWant, if_true, List.length_cons, List.length_nil, and_self]
  cases sEq s1 s2 <;> simp only [Bool.false_and, Bool.true_and]
  cases n1 == n2 <;> simp only [Bool.false_and, Bool.true_and]
  cases sEq h1 h2 <;> simp only [Bool.false_and, Bool.true_and]
  cases p1 == p2 <;> simp only [Bool.false_and, Bool.true_and]
  cases q1 == q2 <;> simp only [Bool.false_and, Bool.true_and]
  cases d1 == d2 <;> simp only [Bool.false_and, Bool.true_and]
  cases g1 == g2 <;> rfl

def sameGo : List Want → List Want → Bool
  | a :: as, b :: bs => eqWant a b && sameGo as bs
  | _, _ => true
def sameWants (a b : List Want) : Bool := decide (a.length = b.length) && sameGo a b

def head138 (a b : List Want) (i : Nat) : St := hd [(0, .sl .bor 7 (a.map Want.c)), (1, .sl .bor 7 (b.map Want.c)), (5, .int .i64 i)] [] 0

/-- What a berth is to run: of the last place of its name. -/
def wantsFor (name : T) (acc : List Want) : List Place → List Want
  | [] => acc
  | p :: r => wantsFor name (if sEq p.berth name then p.wants else acc) r
def runsAre : List Run → List Want → Bool
  | r :: rs, w :: ws => eqWant r.want w && (r.state == 4 && runsAre rs ws)
  | _, _ => true
def settledRuns (up : Bool) (rs : List Run) (ws : List Want) : Bool := up && (decide (rs.length = ws.length) && runsAre rs ws)
def settledMate (ps : List Place) (m : Mate) : Bool := settledRuns m.up m.runs (wantsFor m.name [] ps)
def settled (w : Wld) : Bool := worldOk w && w.mates.all (settledMate w.land.places)

def wantV (acc : Option (List Want)) : AV := match acc with
  | none => .sl .own 7 []
  | some ws => .sl .bor 7 (ws.map Want.c)

def head68m (w : Wld) (mm : Md) (i : Nat) : St := hd [(1, .ptr 0 0 0), (14, .sl .bor 9 (w.mates.map (Mate.c mm))), (15, .int .i64 w.mates.length), (16, .int .i64 i)] [.box (w.c .bor mm)] 0
def head68p (w : Wld) (mm : Md) (i : Nat) (m : Mate) (j : Nat) (acc : Option (List Want)) : St := hd [(1, .ptr 0 0 0), (4, .ptr 1 0 0), (5, wantV acc), (14, .sl .bor 9 (w.mates.map (Mate.c mm))), (15, .int .i64 w.mates.length), (16, .int .i64 i), (22, .sl .bor 3 (w.land.places.map (Place.c mm))), (23, .int .i64 w.land.places.length), (24, .int .i64 j)] [.box (w.c .bor mm), .box (m.c .bor)] 0
def head68r (w : Wld) (mm : Md) (i : Nat) (m : Mate) (ws : List Want) (j : Nat) : St := hd [(1, .ptr 0 0 0), (5, .sl .bor 7 (ws.map Want.c)), (14, .sl .bor 9 (w.mates.map (Mate.c mm))), (15, .int .i64 w.mates.length), (16, .int .i64 i), (48, .sl .bor 11 (m.runs.map Run.c)), (49, .int .i64 m.runs.length), (50, .int .i64 j)] [.box (w.c .bor mm)] 0
def head68e (w : Wld) (mm : Md) (i : Nat) : St := hd [(1, .ptr 0 0 0), (5, .sl .own 7 []), (14, .sl .bor 9 (w.mates.map (Mate.c mm))), (15, .int .i64 w.mates.length), (16, .int .i64 i), (48, .sl .bor 11 []), (49, .int .i64 0), (50, .int .i64 0)] [.box (w.c .bor mm)] 0

theorem runsAre_same : ∀ (rs : List Run) (ws : List Want), rs.length = ws.length → (rs.all (fun r => r.state == 4) && sameGo (rs.map Run.want) ws) = runsAre rs ws
  | [], [], _ => rfl
  | r :: rs, w :: ws, h => by
    have ih := runsAre_same rs ws (by simpa using h)
    simp only [List.all_cons, List.map_cons, sameGo, runsAre, ← ih]
    cases r.state == 4 <;> cases eqWant r.want w <;> cases rs.all (fun r => r.state == 4) <;> rfl
  | [], _ :: _, h => by simp at h
  | _ :: _, [], h => by simp at h

theorem settled_same (up : Bool) (rs : List Run) (ws : List Want) : (rs.all (fun r => r.state == 4) && (up && sameWants (rs.map Run.want) ws)) = settledRuns up rs ws := by
  unfold sameWants settledRuns
  rw [List.length_map]
  by_cases h : rs.length = ws.length
  · rw [← runsAre_same rs ws h]
    cases up <;> simp [h]
  · cases up <;> simp [h]

def head69m (w : Wld) (mm : Md) (i : Nat) : St := hd [(1, .ptr 0 0 0), (3, .int .i64 i)] [.box (w.c .bor mm)] 0
def wantV2 (acc : Option (List Want)) : AV := match acc with
  | none => .ref 2
  | some ws => .sl .bor 7 (ws.map Want.c)
def wantH2 (acc : Option (List Want)) : List AO := match acc with
  | none => [.arr 7 []]
  | some _ => []
def haveV (acc : Option (List Want)) : AV := match acc with
  | none => .ref 3
  | some _ => .ref 2
def head69p (w : Wld) (mm : Md) (i : Nat) (m : Mate) (j : Nat) (acc : Option (List Want)) : St := hd [(1, .ptr 0 0 0), (3, .int .i64 i), (4, .ptr 1 0 0), (5, wantV2 acc), (6, .int .i64 j)] (.box (w.c .bor mm) :: .box (m.c .bor) :: wantH2 acc) 0
def head69r (w : Wld) (mm : Md) (i : Nat) (m : Mate) (j : Nat) (acc : Option (List Want)) (hv : List Want) : St := hd [(1, .ptr 0 0 0), (3, .int .i64 i), (4, .ptr 1 0 0), (5, wantV2 acc), (7, haveV acc), (8, .int .i64 j)] (.box (w.c .bor mm) :: .box (m.c .bor) :: (wantH2 acc ++ [.arr 7 (hv.map Want.c)])) 0

end Go.Proofs.Ytfebkfeobdffjaa
