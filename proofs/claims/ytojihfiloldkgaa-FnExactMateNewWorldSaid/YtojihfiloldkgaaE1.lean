/- The laws' own helpers, on wants: copies, sizes, comparison with the same. -/
import Derived.Test.YtojihfiloldkgaaA1
namespace Go.Proofs.Ytojihfiloldkgaa
open Go
set_option linter.unusedSimpArgs false
set_option maxRecDepth 100000

/-- What is left of a size. -/
def off (l : Int) (n : Nat) : Int := if IntKind.i64.wrap (l - n) < 0 then -1 else IntKind.i64.wrap (l - n)
def offs (l : Int) : List Nat → Int
  | [] => l
  | n :: r => if off l n < 0 then -1 else offs (off l n) r

theorem off_neg {l : Int} {n : Nat} (h : IntKind.i64.wrap (l - n) < 0) : off l n = -1 := by rw [off, if_pos h]
theorem off_pos {l : Int} {n : Nat} (h : ¬ IntKind.i64.wrap (l - n) < 0) : off l n = IntKind.i64.wrap (l - n) := by rw [off, if_neg h]

def szWant (w : Want) (l : Int) : Int := offs l [w.copy.size, w.hold.size]
def szWantGo : List Want → Int → Int
  | [], l => l
  | w :: r, l => if szWant w l < 0 then -1 else szWantGo r (szWant w l)
def szWants (ws : List Want) (l : Int) : Int := if off l ws.length < 0 then -1 else szWantGo ws (off l ws.length)

theorem wrap_len {l : Int} {n : Nat} (h : ¬ IntKind.i64.wrap (l - n) < 0) (hn : n ≤ 9223372036854775807) (h0 : 0 ≤ l) (hx : l ≤ 1048576) : n ≤ 1048576 := by
  rw [IntKind.wrap_i64] at h
  omega

/-- A list that is filled from the left. -/
def fillU {α : Type} (c : α → List AV) (z : List AV) (ws : List α) (i : Nat) : List (List AV) := (ws.take i).map c ++ List.replicate (ws.length - i) z

section
variable {α : Type} (c : α → List AV) (z : List AV) {ws : List α} {i : Nat}
@[simp] theorem fillU_len : (fillU c z ws i).length = ws.length := by simp [fillU]; omega
theorem fillU_get (h : i < ws.length) : (fillU c z ws i)[i]? = some z := by
  have : (List.map c (ws.take i)).length = i := by simp; omega
  rw [fillU, List.getElem?_append_right (by omega), this, Nat.sub_self, List.getElem?_replicate, if_pos (by omega)]
@[simp] theorem fillU_at (h : i < (fillU c z ws i).length) : (fillU c z ws i)[i] = z := by
  have := fillU_get c z (ws := ws) (i := i) (by simpa using h)
  rw [List.getElem?_eq_getElem h] at this
  exact Option.some.inj this
theorem fillU_set {a : α} (h : ws[i]? = some a) : (fillU c z ws i).set i (c a) = fillU c z ws (i + 1) := by
  obtain ⟨hi, hg⟩ := List.getElem?_eq_some_iff.1 h
  have h1 : (List.map c (ws.take i)).length = i := by simp; omega
  rw [fillU, fillU, List.set_append_right _ _ (by omega), h1, Nat.sub_self, show ws.length - i = (ws.length - (i + 1)) + 1 by omega, List.replicate_succ, List.set_cons_zero, take_snoc h]
  simp
theorem fillU_zero : fillU c z ws 0 = List.replicate ws.length z := by simp [fillU]
theorem fillU_all : fillU c z ws ws.length = ws.map c := by simp [fillU]
end

theorem law83 (w : Want) : F 83 [.agg w.c, .agg w.c] [] = some (.bool true, []) := by
  refine F_run fn83 rfl ?_
  simp [c83]

def headToWant (ws : List Want) (i : Nat) : St := hd [(0, .sl .bor 7 (ws.map Want.c)), (3, .ref 0), (4, .int .i64 i)] [.arr 7 (fillU Want.c [.str ⟨#[]⟩, .int .i64 0, .str ⟨#[]⟩, .int .i64 0, .int .i64 0, .int .i64 0, .int .i64 0] ws i)] 0

def headSzWant (ws : List Want) (l : Int) (i : Nat) : St := hd [(0, .sl .bor 7 (ws.map Want.c)), (1, .int .i64 l), (5, .int .i64 i)] [] 0

def headEqWant (ws : List Want) (i : Nat) : St := hd [(0, .sl .bor 7 (ws.map Want.c)), (1, .sl .bor 7 (ws.map Want.c)), (5, .int .i64 i)] [] 0

theorem law5 (ws : List Want) (hl : ws.length < big) : F 5 [.sl .bor 7 (ws.map Want.c), .sl .bor 7 (ws.map Want.c)] [] = some (.bool true, []) := by
  refine F_run fn5 rfl ?_
  have hm : ws.length ≤ 9223372036854775807 := by unfold big at hl; omega
  simp [c5]
  refine (loop_list ws (fun i (_ : Unit) => headEqWant ws i) (fun _ _ => True) (fun _ r l => (.bool true, [])) (fun acc Y _ => ?_) (fun i a r acc Y ha hi hr _ hY => ?_) () ?_ trivial ?_).trans rfl
  · simp [headEqWant, c5b0]
  · have hw : IntKind.i64.wrap ((i : Int) + 1) = (i : Int) + 1 := i64w (by omega) (by omega)
    obtain ⟨_, hg⟩ := List.getElem?_eq_some_iff.1 ha
    have h1 := law83 a
    simp only [Want.c] at h1
    simp [headEqWant, c5b0, hi, hg, h1]
    rw [hY () _ trivial]
    simp [headEqWant, hw]
  · simp [headEqWant]
  · exact hl


theorem szWants_len {ws : List Want} {l : Int} (h : 0 ≤ szWants ws l) (hl : ws.length ≤ 9223372036854775807) (h0 : 0 ≤ l) (hx : l ≤ 1048576) : ws.length ≤ 1048576 := by
  unfold szWants at h
  by_cases h2 : IntKind.i64.wrap (l - ws.length) < 0
  · rw [off_neg h2] at h; simp at h
  · exact wrap_len h2 hl h0 hx
end Go.Proofs.Ytojihfiloldkgaa
