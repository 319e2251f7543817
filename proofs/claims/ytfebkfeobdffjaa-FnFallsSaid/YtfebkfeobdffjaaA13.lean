/- Layer 3: a tick of a run's life. -/
import Derived.Test.YtfebkfeobdffjaaA2
import Derived.Test.YtfebkfeobdffjaaA10
import Derived.Test.YtfebkfeobdffjaaReadT
namespace Go.Proofs.Ytfebkfeobdffjaa
open Go
set_option linter.unusedSimpArgs false
set_option maxRecDepth 100000

def Run.zero : Run := ⟨⟨⟨#[]⟩, 0, ⟨#[]⟩, 0, 0, 0, 0⟩, 0, 0, 0, 0⟩
def beginR (r : Run) (clock : Int) : Run := if leased r clock then { r with state := 3, left := r.want.start } else { r with state := 2, left := 0 }
def fallsUp (n : Int) : Int := if n < 1000 then n + 1 else n
def leftOf (f : Int) : Int := if 4 ≤ f then 16 else if f ≤ 0 then 1 else if f = 1 then 2 else if f = 2 then 4 else 8
def dies (r : Run) : Run := { r with falls := fallsUp r.falls, state := 5, left := leftOf (fallsUp r.falls) }
def mateLive (r : Run) (w : Want) (wanted : Bool) (clock : Int) : Option Run :=
  if (!wanted || !eqWant w r.want) && r.state != 6 then (if alive r then some { r with state := 6, left := r.want.grace } else none)
  else if r.state ≠ 2 ∧ 1 < r.left then some { r with left := r.left - 1 }
  else if r.state = 3 then some { r with state := 4, left := r.want.dies }
  else if r.state = 4 then (if r.left = 1 then some (dies r) else some r)
  else if r.state = 6 then none
  else if r.state = 1 ∨ r.state = 2 ∨ r.state = 5 then some (beginR r clock)
  else some r

def liveRes (r : Run) (w : Want) (wanted : Bool) (clock : Int) : AV := .tup [.agg ((mateLive r w wanted clock).getD .zero).c, .bool (mateLive r w wanted clock).isSome]

def head93 (r : Run) (f : Int) (i : Nat) : St := hd [(1, .ptr 0 0 0), (2, .ptr 1 0 0), (3, .int .i64 i)] [.box ({ r with state := 5, left := 2 ^ i, falls := f } : Run).c, .box Run.zero.c] 0

theorem leftOf_stop {f : Int} {i : Nat} (hi : i ≤ 4) (h1 : (i : Int) ≤ f ∨ i = 0) (h2 : ¬ ((i : Int) < f) ∨ i = 4) : (2 : Int) ^ i = leftOf f := by
  unfold leftOf
  rcases i with _ | _ | _ | _ | _ | i
  · have : f ≤ 0 := by omega
    rw [if_neg (by omega), if_pos this]; rfl
  · have : f = 1 := by omega
    subst this; rfl
  · have : f = 2 := by omega
    subst this; rfl
  · have : f = 3 := by omega
    subst this; rfl
  · rw [if_pos (by omega)]; rfl
  · omega

theorem shlLeft {f : Int} (h : f < 4) : IntKind.i64.wrap (2 ^ min (if f < 0 then (0 : Int) else f).toNat IntKind.i64.bits) = leftOf f := by
  unfold leftOf
  rw [if_neg (show ¬ 4 ≤ f by omega)]
  by_cases h0 : f ≤ 0
  · rw [if_pos (show f ≤ 0 from h0)]
    have : (if f < 0 then (0 : Int) else f) = 0 := by split <;> omega
    rw [this]; rfl
  rw [if_neg (show ¬ f ≤ 0 from h0), if_neg (show ¬ f < 0 by omega)]
  by_cases h1 : f = 1
  · subst h1; rfl
  by_cases h2 : f = 2
  · subst h2; rfl
  have h3 : f = 3 := by omega
  subst h3; rfl

end Go.Proofs.Ytfebkfeobdffjaa
