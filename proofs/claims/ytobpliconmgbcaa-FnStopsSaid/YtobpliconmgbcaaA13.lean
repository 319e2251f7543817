/- Layer 3: a tick of a run's life. -/
import Derived.Test.YtobpliconmgbcaaA2
import Derived.Test.YtobpliconmgbcaaA10
import Derived.Test.YtobpliconmgbcaaReadT
namespace Go.Proofs.Ytobpliconmgbcaa
open Go
set_option linter.unusedSimpArgs false
set_option maxRecDepth 100000

def Run.zero : Run := ⟨⟨⟨#[]⟩, 0, ⟨#[]⟩, 0, 0, 0, 0⟩, 0, 0, 0, 0⟩
def beginR (r : Run) (clock : Int) : Run := if leased r clock then { r with state := 3, left := r.want.start } else { r with state := 2, left := 0 }
def fallsUp (n : Int) : Int := if n < 1000 then n + 1 else n
def leftOf (f : Int) : Int := if 4 ≤ f then 16 else if f ≤ 0 then 1 else if f = 1 then 2 else if f = 2 then 4 else 8
def dies (r : Run) : Run := { r with falls := fallsUp r.falls, state := 5, left := leftOf (fallsUp r.falls) }
def mateLive (r : Run) (w : Want) (wanted : Bool) (clock : Int) : Option Run :=
  if (!wanted || !eqWant w r.want) && r.state != 6 then (if alive r then some { r with state := 6, left := r.want.grace } else none)
  else if r.state ≠ 2 ∧ 1 < r.left then some { r with left := r.left - 1 }
  else if r.state = 3 then some { r with state := 4, left := r.want.dies }
  else if r.state = 4 then (if r.left = 1 then some (dies r) else some r)
  else if r.state = 6 then none
  else if r.state = 1 ∨ r.state = 2 ∨ r.state = 5 then some (beginR r clock)
  else some r

def liveRes (r : Run) (w : Want) (wanted : Bool) (clock : Int) : AV := .tup [.agg ((mateLive r w wanted clock).getD .zero).c, .bool (mateLive r w wanted clock).isSome]

theorem law92 (r : Run) (clock : Int) : F 92 [.agg r.c, .int .i64 clock] [] = some (.agg (beginR r clock).c, []) := by
  refine F_run fn92 rfl ?_
  simp [c92, beginR, leased, leasedB]
  cases q1 : sEq r.want.hold ⟨#[]⟩ <;> simp
  by_cases q2 : IntKind.i64.wrap (clock + 4) ≤ r.til
  · simp [q2]
  · simp [q2]

theorem law94 (r : Run) (clock : Int) : F 94 [.agg r.c, .int .i64 clock] [] = some (.agg (beginR r clock).c, []) := by
  refine F_run fn94 rfl ?_
  simp [c94, beginR, leased]
  by_cases q1 : leasedB r.want.hold r.til clock = true <;> simp [q1]

def head93 (r : Run) (f : Int) (i : Nat) : St := hd [(1, .ptr 0 0 0), (2, .ptr 1 0 0), (3, .int .i64 i)] [.box ({ r with state := 5, left := 2 ^ i, falls := f } : Run).c, .box Run.zero.c] 0

theorem leftOf_stop {f : Int} {i : Nat} (hi : i ≤ 4) (h1 : (i : Int) ≤ f ∨ i = 0) (h2 : ¬ ((i : Int) < f) ∨ i = 4) : (2 : Int) ^ i = leftOf f := by
  unfold leftOf
  rcases i with _ | _ | _ | _ | _ | i
  · have : f ≤ 0 := by omega
    rw [if_neg (by omega), if_pos this]; rfl
  · have : f = 1 := by omega
    subst this; rfl
  · have : f = 2 := by omega
    subst this; rfl
  · have : f = 3 := by omega
    subst this; rfl
  · rw [if_pos (by omega)]; rfl
  · omega

theorem law93 (r : Run) (hr : I64 r.falls) : F 93 [.agg r.c] [] = some (.agg (dies r).c, []) := by
  refine F_run fn93 rfl ?_
  have hu : r.falls < 1000 → IntKind.i64.wrap (r.falls + 1) = r.falls + 1 := fun h => i64w (by have := hr.1; omega) (by omega)
  have key : ∀ (f : Int) (s : St), s.norm [1, 2, 3] = head93 r f 0 →
      fin [CRes.cell 2 11 true] 0 (X F [.code (.loop [1, 2, 3] c93b0), .blk 0, .code (.seq (.region [⟨some 28, .load (.tmp 1) 11 true .plain, none⟩, ⟨none, .store (.tmp 2) (.tmp 28) 11, none⟩] [2]) .ret)] (.normal, s)) =
        some (.agg ({ r with state := 5, left := leftOf f, falls := f } : Run).c, []) := by
    intro f s hs
    refine loop_by (K := fin [CRes.cell 2 11 true] 0) (σ := Nat) (fun i => head93 r f i) (fun i => i ≤ 4 ∧ ((i : Int) ≤ f ∨ i = 0)) (fun i => 4 - i) (fun _ => (AV.agg ({ r with state := 5, left := leftOf f, falls := f } : Run).c, ([] : List (Option AO)))) (fun i Y hinv hY => ?_) 0 hs ⟨by omega, .inr rfl⟩ (by unfold big; omega)
    obtain ⟨h1, h2⟩ := hinv
    have hw : IntKind.i64.wrap ((i : Int) + 1) = (i : Int) + 1 := i64w (by omega) (by omega)
    have h2w : IntKind.i64.wrap (2 * 2 ^ i) = 2 ^ (i + 1) := by
      rcases i with _ | _ | _ | _ | _ | i
      · rfl
      · rfl
      · rfl
      · rfl
      · rfl
      · omega
    have h16 : ((2 : Int) ^ i < 16) ↔ i < 4 := by
      rcases i with _ | _ | _ | _ | _ | i
      · decide
      · decide
      · decide
      · decide
      · decide
      · omega
    by_cases q1 : (i : Int) < f
    · by_cases q2 : i < 4
      · simp [head93, c93b0, q1, q2, h16, Run.zero, h2w]
        refine hY (i + 1) _ ⟨by omega, .inl (by push_cast; omega)⟩ (by omega) ?_
        simp [head93, hw, Run.zero]
      · have hst := leftOf_stop h1 h2 (.inr (by omega))
        have h17 : ¬ (leftOf f < 16) := by rw [← hst, h16]; exact q2
        simp [head93, c93b0, q1, q2, h17, Run.zero, hst]
    · have hst := leftOf_stop h1 h2 (.inl q1)
      simp [head93, c93b0, q1, h16, Run.zero, hst]
  unfold dies fallsUp
  by_cases q : r.falls < 1000
  · simp [c93, q, hu q]
    refine (key (r.falls + 1) _ ?_).trans ?_
    · simp [head93, Run.zero]
    · simp
  · simp [c93, q]
    refine (key r.falls _ ?_).trans ?_
    · simp [head93, Run.zero]
    · simp

theorem shlLeft {f : Int} (h : f < 4) : IntKind.i64.wrap (2 ^ min (if f < 0 then (0 : Int) else f).toNat IntKind.i64.bits) = leftOf f := by
  unfold leftOf
  rw [if_neg (show ¬ 4 ≤ f by omega)]
  by_cases h0 : f ≤ 0
  · rw [if_pos (show f ≤ 0 from h0)]
    have : (if f < 0 then (0 : Int) else f) = 0 := by split <;> omega
    rw [this]; rfl
  rw [if_neg (show ¬ f ≤ 0 from h0), if_neg (show ¬ f < 0 by omega)]
  by_cases h1 : f = 1
  · subst h1; rfl
  by_cases h2 : f = 2
  · subst h2; rfl
  have h3 : f = 3 := by omega
  subst h3; rfl

theorem law14 (r : Run) (w : Want) (b : Bool) (clock : Int) (hf : I64 r.falls) (hl : I64 r.left) : F 14 [.agg r.c, .agg w.c, .bool b, .int .i64 clock] [] = some (liveRes r w b clock, []) := by
  refine F_run fn14 rfl ?_
  have w92 := law92 r clock
  have hw : 1 < r.left → IntKind.i64.wrap (r.left - 1) = r.left - 1 := fun h => i64w (by omega) (by have := hl.2; omega)
  have hu : r.falls < 1000 → IntKind.i64.wrap (r.falls + 1) = r.falls + 1 := fun h => i64w (by have := hf.1; omega) (by omega)
  simp only [Run.c] at w92
  unfold liveRes mateLive
  by_cases hu1 : b = true ∧ eqWant w r.want = true
  · obtain ⟨rfl, he⟩ := hu1
    by_cases sl : 1 < r.left
    · have sl' : ¬ r.left ≤ 1 := by omega
      have hw' := hw sl
      by_cases s1 : r.state = 1
      · simp [c14, he, s1, sl, sl', hw']
      by_cases s2 : r.state = 2
      · rw [s2] at w92
        simp [c14, he, s2, sl, sl', hw', w92]
      by_cases s3 : r.state = 3
      · simp [c14, he, s3, sl, sl', hw']
      by_cases s4 : r.state = 4
      · simp [c14, he, s4, sl, sl', hw']
      by_cases s5 : r.state = 5
      · simp [c14, he, s5, sl, sl', hw']
      by_cases s6 : r.state = 6
      · simp [c14, he, s6, sl, sl', hw']
      · simp [c14, he, s1, s2, s3, s4, s5, s6, sl, sl', hw']
    · have sl' : r.left ≤ 1 := by omega
      by_cases s1 : r.state = 1
      · rw [s1] at w92
        simp [c14, he, s1, sl, sl', w92]
      by_cases s2 : r.state = 2
      · rw [s2] at w92
        simp [c14, he, s2, sl, sl', w92]
      by_cases s3 : r.state = 3
      · simp [c14, he, s3, sl, sl']
      by_cases s4 : r.state = 4
      · by_cases sa : r.left = 1
        · have hf2 := hf.1
          have bk : sEq (bkey false) (bkey true) = false := by
            rw [← Bool.not_eq_true, sEq_iff]
            intro e
            have := congrArg (fun x => x.data.toList) e
            simp [bkey] at this
          by_cases q : r.falls < 1000
          · have hq := hu q
            by_cases q4 : r.falls + 1 < 4
            · have q4' : ¬ (4 ≤ r.falls + 1) := by omega
              have hsh := shlLeft q4
              have hnn : ¬ ((if r.falls + 1 < 0 then 0 else r.falls + 1) < 0) := by split <;> omega
              simp [c14, he, s4, sl, sl', sa, q, hq, q4, mapGet, mapPut, dies, fallsUp, hnn, hsh]
            · have q4' : 4 ≤ r.falls + 1 := by omega
              simp [c14, he, s4, sl, sl', sa, q, hq, q4, q4', mapGet, mapPut, dies, fallsUp, leftOf]
          · have hq : IntKind.i64.wrap r.falls = r.falls := i64w hf.1 hf.2
            have q4 : ¬ r.falls < 4 := by omega
            have q4' : 4 ≤ r.falls := by omega
            simp [c14, he, s4, sl, sl', sa, q, hq, q4, q4', mapGet, mapPut, bk, dies, fallsUp, leftOf]
        · simp [c14, he, s4, sl, sl', sa]
      by_cases s5 : r.state = 5
      · rw [s5] at w92
        simp [c14, he, s5, sl, sl', w92]
      by_cases s6 : r.state = 6
      · simp [c14, he, s6, sl, sl', Run.zero]
      · simp [c14, he, s1, s2, s3, s4, s5, s6, sl, sl']
  · have hun : (!b || !eqWant w r.want) = true := by
      cases b <;> simp at hu1 ⊢
      exact hu1
    by_cases s6 : r.state = 6
    · by_cases sl : 1 < r.left
      · have sl' : ¬ r.left ≤ 1 := by omega
        have hw' := hw sl
        cases b
        · simp [c14, s6, sl, sl', hw']
        · simp only [Bool.not_true, Bool.false_or, Bool.not_eq_true'] at hun
          simp [c14, s6, sl, sl', hw', hun]
      · have sl' : r.left ≤ 1 := by omega
        cases b
        · simp [c14, s6, sl, sl', Run.zero]
        · simp only [Bool.not_true, Bool.false_or, Bool.not_eq_true'] at hun
          simp [c14, s6, sl, sl', hun, Run.zero]
    · cases q : aliveS r.state
      · cases b
        · simp [c14, s6, alive, q, Run.zero]
        · simp only [Bool.not_true, Bool.false_or, Bool.not_eq_true'] at hun
          simp [c14, s6, alive, q, hun, Run.zero]
      · cases b
        · simp [c14, s6, alive, q]
        · simp only [Bool.not_true, Bool.false_or, Bool.not_eq_true'] at hun
          simp [c14, s6, alive, q, hun]

theorem law15 (r : Run) (w : Want) (b : Bool) (clock : Int) (hf : I64 r.falls) (hl : I64 r.left) : F 15 [.agg r.c, .agg w.c, .bool b, .int .i64 clock] [] = some (liveRes r w b clock, []) := by
  refine F_run fn15 rfl ?_
  have w94 := law94 r clock
  have w93 := law93 r hf
  have hw : 1 < r.left → IntKind.i64.wrap (r.left - 1) = r.left - 1 := fun h => i64w (by omega) (by have := hl.2; omega)
  simp only [Run.c] at w94 w93
  unfold liveRes mateLive
  by_cases hu1 : b = true ∧ eqWant w r.want = true
  · obtain ⟨rfl, he⟩ := hu1
    by_cases s2 : r.state = 2
    · rw [s2] at w94
      simp [c15, he, s2, w94]
    by_cases sl : 1 < r.left
    · have hw' := hw sl
      simp [c15, he, s2, sl, hw']
    · by_cases s1 : r.state = 1
      · rw [s1] at w94
        simp [c15, he, s1, sl, w94]
      by_cases s3 : r.state = 3
      · simp [c15, he, s3, sl]
      by_cases s4 : r.state = 4
      · by_cases sa : r.left = 1
        · rw [s4, sa] at w93
          simp [c15, he, s4, sl, sa, w93]
        · simp [c15, he, s4, sl, sa]
      by_cases s5 : r.state = 5
      · rw [s5] at w94
        simp [c15, he, s5, sl, w94]
      by_cases s6 : r.state = 6
      · simp [c15, he, s6, sl, Run.zero]
      · simp [c15, he, s1, s2, s3, s4, s5, s6, sl]
  · have hun : (!b || !eqWant w r.want) = true := by
      cases b <;> simp at hu1 ⊢
      exact hu1
    by_cases s6 : r.state = 6
    · by_cases sl : 1 < r.left
      · have hw' := hw sl
        cases b
        · simp [c15, s6, sl, hw']
        · simp only [Bool.not_true, Bool.false_or, Bool.not_eq_true'] at hun
          simp [c15, s6, sl, hw', hun]
      · cases b
        · simp [c15, s6, sl, Run.zero]
        · simp only [Bool.not_true, Bool.false_or, Bool.not_eq_true'] at hun
          simp [c15, s6, sl, hun, Run.zero]
    · cases q : aliveS r.state
      · cases b
        · simp [c15, s6, alive, q, Run.zero]
        · simp only [Bool.not_true, Bool.false_or, Bool.not_eq_true'] at hun
          simp [c15, s6, alive, q, hun, Run.zero]
      · cases b
        · simp [c15, s6, alive, q]
        · simp only [Bool.not_true, Bool.false_or, Bool.not_eq_true'] at hun
          simp [c15, s6, alive, q, hun]
end Go.Proofs.Ytobpliconmgbcaa
