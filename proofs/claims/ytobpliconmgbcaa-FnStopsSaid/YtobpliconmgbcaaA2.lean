/- Layer 2: runs: what the program's and the reference's checks compute. -/
import Derived.Test.YtobpliconmgbcaaA1
namespace Go.Proofs.Ytobpliconmgbcaa
open Go
set_option linter.unusedSimpArgs false
set_option maxRecDepth 100000

def aliveS (n : Int) : Bool := n == 3 || n == 4 || n == 6
@[simp] theorem aliveS_2 : aliveS 2 = false := rfl
def alive (r : Run) : Bool := aliveS r.state

@[simp] theorem law1 (s : T) (n : Int) (h : T) (n1 n2 n3 n4 m1 m2 m3 m4 : Int) : F 1 [.agg [.str s, .int .i64 n, .str h, .int .i64 n1, .int .i64 n2, .int .i64 n3, .int .i64 n4, .int .i64 m1, .int .i64 m2, .int .i64 m3, .int .i64 m4]] [] = some (.bool (aliveS m1), []) := by
  refine F_run fn1 rfl ?_
  simp [c1, aliveS]
  by_cases h1 : m1 = 3 <;> by_cases h2 : m1 = 4 <;> simp [h1, h2]

@[simp] theorem law2 (s : T) (n : Int) (h : T) (n1 n2 n3 n4 m1 m2 m3 m4 : Int) : F 2 [.agg [.str s, .int .i64 n, .str h, .int .i64 n1, .int .i64 n2, .int .i64 n3, .int .i64 n4, .int .i64 m1, .int .i64 m2, .int .i64 m3, .int .i64 m4]] [] = some (.bool (aliveS m1), []) := by
  refine F_run fn2 rfl ?_
  simp [c2, aliveS]
  by_cases h1 : m1 = 3 <;> by_cases h2 : m1 = 4 <;> simp [h1, h2]

/-- Has it its hold for long enough, or none? -/
def leasedB (hold : T) (til clock : Int) : Bool := sEq hold ⟨#[]⟩ || decide (IntKind.i64.wrap (clock + 4) ≤ til)
def leased (r : Run) (clock : Int) : Bool := leasedB r.want.hold r.til clock

@[simp] theorem law95 (s : T) (n : Int) (h : T) (n1 n2 n3 n4 m1 m2 m3 m4 c : Int) : F 95 [.agg [.str s, .int .i64 n, .str h, .int .i64 n1, .int .i64 n2, .int .i64 n3, .int .i64 n4, .int .i64 m1, .int .i64 m2, .int .i64 m3, .int .i64 m4], .int .i64 c] [] = some (.bool (leasedB h m4 c), []) := by
  refine F_run fn95 rfl ?_
  simp [c95, leasedB]
  cases h1 : sEq h ⟨#[]⟩ <;> simp [h1]

def runOk (r : Run) (clock : Int) : Bool :=
  wantOk r.want && (inR r.state 1 6 && (inR r.left 0 100 && (!(r.state == 2 && r.left != 0) && (inR r.falls 0 1000 && (inR r.til 0 1000016 && (!(sEq r.want.hold ⟨#[]⟩ && r.til != 0) && (!alive r || leased r clock)))))))

def ascR (pre : List Run) (r : Run) : Bool :=
  match pre.getLast? with
  | none => true
  | some p => sLt p.want.copy r.want.copy
def runsGo (clock : Int) (pre : List Run) : List Run → Bool
  | [] => true
  | r :: rs => runOk r clock && (ascR pre r && runsGo clock (pre ++ [r]) rs)
def runsOk (rs : List Run) (clock : Int) : Bool := decide (rs.length ≤ 20) && runsGo clock [] rs

def head12 (rs : List Run) (c : Int) (i : Nat) : St := hd [(0, .sl .bor 11 (rs.map Run.c)), (1, .int .i64 c), (5, .int .i64 i)] [] 0

def head11 (rs : List Run) (c : Int) (i : Nat) : St := hd [(0, .sl .bor 11 (rs.map Run.c)), (1, .int .i64 c), (10, .sl .bor 11 (rs.map Run.c)), (11, .int .i64 rs.length), (12, .int .i64 i)] [] 0

end Go.Proofs.Ytobpliconmgbcaa
