/- Layer 6: the book of grants: what it must be. -/
import Derived.Test.YtfebkfeobdffjaaA1
namespace Go.Proofs.Ytfebkfeobdffjaa
open Go
set_option linter.unusedSimpArgs false
set_option maxRecDepth 100000

def grantOk (t : Int) (g : Grant) : Bool := isHold g.hold && (isName g.berth && (isName g.copy && (inR g.at_ 0 1000000 && inR g.til 0 (IntKind.i64.wrap (t + 32)))))
def ascG (pre : List Grant) (g : Grant) : Bool :=
  match pre.getLast? with
  | none => true
  | some p => sLt p.hold g.hold
def grantsGo (t : Int) (pre : List Grant) : List Grant → Bool
  | [] => true
  | g :: r => grantOk t g && (ascG pre g && grantsGo t (pre ++ [g]) r)
def ascP (pre : List Place) (p : Place) : Bool :=
  match pre.getLast? with
  | none => true
  | some q => sLt q.berth p.berth
def heldIn (pre : List Place) (k : T) : Bool := heldB (pre.flatMap Place.wants) k
def freshP (pre : List Place) (p : Place) : Bool := p.wants.all fun w => sEq w.hold ⟨#[]⟩ || !heldIn pre w.hold
def placeOk (p : Place) : Bool := isName p.berth && (inR p.seen 1 1000000 && wantsOk p.wants)
def placesGo (pre : List Place) : List Place → Bool
  | [] => true
  | p :: r => placeOk p && (ascP pre p && (freshP pre p && placesGo (pre ++ [p]) r))
def landOk (l : Land) : Bool :=
  inR l.time 0 2000000 && (decide (l.time.tmod 2 = 0) && (decide (l.grants.length ≤ 40) && (decide (l.places.length ≤ 4) && (grantsGo l.time [] l.grants && placesGo [] l.places))))

structure Place.small (p : Place) : Prop where
  wants : p.wants.length ≤ 1048576
structure Land.small (l : Land) : Prop where
  grants : l.grants.length ≤ 1048576
  places : l.places.length ≤ 1048576
  each : ∀ p ∈ l.places, p.small

/-- In wants that are ok no hold comes twice. -/
theorem wantsGo_fresh : ∀ (r pre : List Want), wantsGo pre r = true → ∀ j w, r[j]? = some w → freshW (pre ++ r.take j) w = true
  | [], _, _, j, w, h => by simp at h
  | a :: r, pre, hg, j, w, h => by
    simp only [wantsGo, Bool.and_eq_true] at hg
    cases j with
    | zero => simp at h; subst h; simpa using hg.2.2.1
    | succ j =>
      have := wantsGo_fresh r (pre ++ [a]) hg.2.2.2 j w (by simpa using h)
      simpa using this

theorem wantsOk_fresh {ws : List Want} (h : wantsOk ws = true) {j : Nat} {w : Want} (hw : ws[j]? = some w) (hne : sEq w.hold ⟨#[]⟩ = false) : heldB (ws.take j) w.hold = false := by
  unfold wantsOk at h
  rw [Bool.and_eq_true] at h
  have := wantsGo_fresh ws [] h.2 j w hw
  simp only [List.nil_append, freshW, hne, Bool.false_or, Bool.not_eq_true'] at this
  exact this

theorem heldB_append (a b : List Want) (k : T) : heldB (a ++ b) k = (heldB a k || heldB b k) := by simp [heldB]
theorem heldMap_append (a b : List Want) : heldMap (a ++ b) = b.foldl (fun m w => mapPut w.hold (.bool true) m) (heldMap a) := by simp [heldMap]

def head23g (l : Land) (m : Md) (i : Nat) : St := hd [(1, .ptr 0 0 0), (33, .sl .bor 5 (l.grants.map Grant.c)), (34, .int .i64 l.grants.length), (35, .int .i64 i)] [.box (l.c .bor m)] 0
def head23p (l : Land) (m : Md) (i : Nat) : St := hd [(1, .ptr 0 0 0), (5, .mapr 1), (90, .sl .bor 3 (l.places.map (Place.c m))), (91, .int .i64 l.places.length), (92, .int .i64 i)]
  [.box (l.c .bor m), .map false (heldMap ((l.places.take i).flatMap Place.wants))] 0
def head23w (l : Land) (m : Md) (i : Nat) (ws : List Want) (j : Nat) : St := hd [(1, .ptr 0 0 0), (5, .mapr 1), (90, .sl .bor 3 (l.places.map (Place.c m))), (91, .int .i64 l.places.length), (92, .int .i64 i), (130, .sl .bor 7 (ws.map Want.c)), (131, .int .i64 ws.length), (132, .int .i64 j)]
  [.box (l.c .bor m), .map false (heldMap ((l.places.take i).flatMap Place.wants ++ ws.take j))] 0

def cw (w x : Want) : Bool := !sEq w.hold ⟨#[]⟩ && sEq w.hold x.hold
theorem freshP_any (pre : List Place) (p : Place) : (!(pre.any fun q => p.wants.any fun w => q.wants.any (cw w))) = freshP pre p := by
  rw [Bool.eq_iff_iff, Bool.not_eq_true', List.any_eq_false]
  unfold freshP
  rw [List.all_eq_true]
  constructor
  · intro h w hw
    cases h1 : sEq w.hold ⟨#[]⟩
    · simp only [Bool.false_or, Bool.not_eq_true', heldIn, heldB, List.any_eq_false, List.mem_flatMap]
      rintro x ⟨q, hq, hx⟩ h2
      apply h q hq
      rw [List.any_eq_true]
      refine ⟨w, hw, ?_⟩
      rw [List.any_eq_true]
      exact ⟨x, hx, by simp [cw, h1]; rw [sEq_comm]; exact h2⟩
    · rfl
  · intro h q hq h2
    obtain ⟨w, hw, h3⟩ := List.any_eq_true.1 h2
    obtain ⟨x, hx, h4⟩ := List.any_eq_true.1 h3
    simp only [cw, Bool.and_eq_true, Bool.not_eq_true'] at h4
    have h5 := h w hw
    rw [h4.1] at h5
    simp only [Bool.false_or, Bool.not_eq_true', heldIn, heldB, List.any_eq_false, List.mem_flatMap] at h5
    exact h5 x ⟨q, hq, hx⟩ (by rw [sEq_comm]; exact h4.2)

def head99 (ps : List Place) (m : Md) (i : Nat) : St := hd [(0, .sl .bor 3 (ps.map (Place.c m))), (3, .int .i64 i)] [] 0
def head99k (ps : List Place) (m : Md) (i : Nat) (p : Place) (k : Nat) : St := hd [(0, .sl .bor 3 (ps.map (Place.c m))), (3, .int .i64 i), (4, .ptr 0 0 0), (5, .int .i64 k)] [.box (p.c .bor)] 0
def head99j (ps : List Place) (m : Md) (i : Nat) (p : Place) (k j : Nat) : St := hd [(0, .sl .bor 3 (ps.map (Place.c m))), (3, .int .i64 i), (4, .ptr 0 0 0), (5, .int .i64 k), (6, .int .i64 j)] [.box (p.c .bor)] 0
def head99n (ps : List Place) (m : Md) (i : Nat) (p : Place) (k j n : Nat) : St := hd [(0, .sl .bor 3 (ps.map (Place.c m))), (3, .int .i64 i), (4, .ptr 0 0 0), (5, .int .i64 k), (6, .int .i64 j), (7, .int .i64 n)] [.box (p.c .bor)] 0

def head24 (l : Land) (m : Md) (i : Nat) : St := hd [(1, .ptr 0 0 0), (3, .int .i64 i)] [.box (l.c .bor m)] 0

theorem prevOr {α : Type} {xs : List α} {i : Nat} (hi : i < xs.length) (hm : xs.length ≤ 9223372036854775807) : (¬ 0 < i ∧ (xs.take i).getLast? = none) ∨ ∃ j : Nat, 0 < i ∧ IntKind.i64.wrap ((i : Int) - 1) = (j : Int) ∧ ∃ h : j < xs.length, (xs.take i).getLast? = some (xs[j]'h) := by
  by_cases hz : i = 0
  · left; exact ⟨by omega, by rw [hz]; rfl⟩
  · right; exact prev hi hm hz

end Go.Proofs.Ytfebkfeobdffjaa
