/- FnStops: the plain law. -/
import Derived.Test.YtobpliconmgbcaaL2
namespace Go.Proofs.Ytobpliconmgbcaa
open Go
set_option linter.unusedSimpArgs false
set_option maxRecDepth 100000

def eqRun (a b : Run) : Bool := eqWant a.want b.want && (a.state == b.state && (a.left == b.left && (a.falls == b.falls && a.til == b.til)))
theorem eqRun_self (a : Run) : eqRun a a = true := by simp [eqRun, (eqWant_iff _ _).2]

@[simp] theorem eqCells_run (s1 : T) (n1 : Int) (h1 : T) (p1 q1 d1 g1 a1 b1 e1 f1 : Int) (s2 : T) (n2 : Int) (h2 : T) (p2 q2 d2 g2 a2 b2 e2 f2 : Int) :
    eqCells [.s, .i, .s, .i, .i, .i, .i, .i, .i, .i, .i] [.str s1, .int .i64 n1, .str h1, .int .i64 p1, .int .i64 q1, .int .i64 d1, .int .i64 g1, .int .i64 a1, .int .i64 b1, .int .i64 e1, .int .i64 f1] [.str s2, .int .i64 n2, .str h2, .int .i64 p2, .int .i64 q2, .int .i64 d2, .int .i64 g2, .int .i64 a2, .int .i64 b2, .int .i64 e2, .int .i64 f2] =
      some (eqRun ⟨⟨s1, n1, h1, p1, q1, d1, g1⟩, a1, b1, e1, f1⟩ ⟨⟨s2, n2, h2, p2, q2, d2, g2⟩, a2, b2, e2, f2⟩) := by
  simp only [eqCells, eqCell, eqRun, eqWant, if_true, List.length_cons, List.length_nil, and_self]
  cases sEq s1 s2 <;> simp only [Bool.false_and, Bool.true_and]
  cases n1 == n2 <;> simp only [Bool.false_and, Bool.true_and]
  cases sEq h1 h2 <;> simp only [Bool.false_and, Bool.true_and]
  cases p1 == p2 <;> simp only [Bool.false_and, Bool.true_and]
  cases q1 == q2 <;> simp only [Bool.false_and, Bool.true_and]
  cases d1 == d2 <;> simp only [Bool.false_and, Bool.true_and]
  cases g1 == g2 <;> simp only [Bool.false_and, Bool.true_and]
  cases a1 == a2 <;> simp only [Bool.false_and, Bool.true_and]
  cases b1 == b2 <;> simp only [Bool.false_and, Bool.true_and]
  cases e1 == e2 <;> simp only [Bool.false_and, Bool.true_and]
  cases f1 == f2 <;> rfl

def head167 (r : Run) (c : Int) (x : Run) (i : Nat) : St := hd [(3, .ptr 0 0 0), (6, .int .i64 c), (7, .ptr 1 0 0), (11, .int .i64 i)] [.box r.c, .box x.c] 0

theorem stops_law (bs : List Int) (hcode : ListWf Byte bs) : F 167 [.sl .imm 1 (bs.map rowB)] [] = some (.bool true, []) := by
  have h : ∀ b ∈ bs, 0 ≤ b ∧ b ≤ 255 := hcode.all
  have hl : bs.length ≤ 9223372036854775807 := hcode.len
  refine F_run fn167 rfl ?_
  by_cases hlen : 1048576 < bs.length
  · have h1 : (1048576 : Int) < bs.length := by omega
    simp [c167, h1]
  have hlenI : ¬ ((1048576 : Int) < bs.length) := by omega
  obtain ⟨r, w, b, c, w0, hr, hw, hc0, hc⟩ := law16 bs (by omega) h
  have i1 : I64 r.falls := ⟨by have := hr.falls.1; omega, by have := hr.falls.2; omega⟩
  have i2 : I64 r.left := ⟨by have := hr.left.1; omega, by have := hr.left.2; omega⟩
  have w1 := law14 r w b c i1 i2
  have w2 := law15 r w b c i1 i2
  unfold liveRes at w1 w2
  generalize (mateLive r w b c).getD .zero = x at w1 w2
  generalize (mateLive r w b c).isSome = y at w1 w2
  simp only [Run.c, Want.c] at w0 w1 w2
  have hxx := eqRun_self x
  simp only [eqRun] at hxx
  by_cases k1 : r.state < 1
  · simp [c167, hlenI, w0, w1, w2, eqRun_self, k1]
  by_cases k2 : 6 < r.state
  · simp [c167, hlenI, w0, w1, w2, eqRun_self, k1, k2]
  by_cases k3 : r.want.grace < 0
  · simp [c167, hlenI, w0, w1, w2, eqRun_self, k1, k2, k3]
  by_cases k4 : 100 < r.want.grace
  · simp [c167, hlenI, w0, w1, w2, eqRun_self, k1, k2, k3, k4]
  by_cases k5 : r.want.grace < r.left ∧ r.state = 6
  · obtain ⟨k5, k6⟩ := k5
    rw [k6] at w0 w1 w2
    simp [c167, hlenI, w0, w1, w2, eqRun_self, k3, k4, k5, k6]
  have main : ∀ s : St, s.norm [3, 6, 7, 11] = head167 r c r 0 →
      fin [CRes.tmp 2] 0 (X F [.code (.loop [3, 6, 7, 11] c167b0), .blk 0, .code (.seq (.region [⟨some 2, .mov (.const (.bool false)), none⟩] [2]) .ret)] (.normal, s)) = some (.bool true, []) := by
    intro s hs
    refine loop_by (K := fin [CRes.tmp 2] 0) (σ := Nat × Run) (fun z => head167 r c z.2 z.1)
      (fun z => (z.1 : Int) ≤ r.want.grace + 1 ∧ z.2.want = r.want ∧ I64 z.2.left ∧ I64 z.2.falls ∧ ((z.1 = 0 ∧ z.2.state ≠ 6) ∨ (z.2.state = 6 ∧ z.2.left ≤ r.want.grace - z.1 + 1)))
      (fun z => 200 - z.1) (fun _ => (AV.bool true, ([] : List (Option AO)))) (fun z Y hinv hY => ?_) (0, r) hs ?_ (by unfold big; simp only; omega)
    · obtain ⟨i, x⟩ := z
      obtain ⟨h1, h2, h3, h4, h5⟩ := hinv
      simp only at h1 h2 h3 h4 h5 hY ⊢
      have hw1 : IntKind.i64.wrap ((i : Int) + 1) = (i : Int) + 1 := i64w (by omega) (by omega)
      have hg2 : IntKind.i64.wrap (r.want.grace + 2) = r.want.grace + 2 := i64w (by omega) (by omega)
      have hlt : (i : Int) < r.want.grace + 2 := by omega
      have l14 := law14 x .zero false (IntKind.i64.wrap (c + i)) h4 h3
      unfold liveRes mateLive at l14
      simp only [Run.c, Want.c, Want.zero] at l14
      have hE := (eqWant_iff x.want r.want).2 h2
      rcases h5 with ⟨h6, h7⟩ | ⟨h6, h7⟩
      · subst h6
        have hlt0 : 0 < r.want.grace + 2 := by omega
        have hgx : x.want.grace = r.want.grace := by rw [h2]
        cases q : alive x
        · simp [h7, q, Run.zero] at l14
          simp [head167, c167b0, hg2, hlt0, l14, eqRun, eqWant]
          done
        · simp [h7, q] at l14
          simp [head167, c167b0, hg2, hlt0, l14, hE]
          refine hY (1, { x with state := 6, left := x.want.grace }) _ ⟨by simp only; omega, h2, ⟨by show _ ≤ x.want.grace; omega, by show x.want.grace ≤ _; omega⟩, h4, .inr ⟨rfl, by show x.want.grace ≤ _; simp only; omega⟩⟩ (by simp only; omega) ?_
          have hone : IntKind.i64.wrap 1 = 1 := i64w (by omega) (by omega)
          simp [head167, hone]
          done
      · by_cases q : 1 < x.left
        · simp [h6, q] at l14
          simp [head167, c167b0, hg2, hlt, l14, hE, h6]
          refine hY (i + 1, { x with left := x.left - 1 }) _ ⟨by simp only; omega, h2, ⟨by simp only; omega, by have := h3.2; simp only; omega⟩, h4, .inr ⟨h6, by simp only; omega⟩⟩ (by simp only; omega) ?_
          simp [head167, hw1, h6]
          done
        · simp [h6, q, Run.zero] at l14
          simp [head167, c167b0, hg2, hlt, l14, eqRun, eqWant, h6]
          done
    · refine ⟨by simp only; omega, rfl, i2, i1, ?_⟩
      by_cases q : r.state = 6
      · exact .inr ⟨q, by simp only; omega⟩
      · exact .inl ⟨rfl, q⟩
  have k5' : ¬ (r.want.grace < r.left) ∨ ¬ (r.state = 6) := by omega
  by_cases k6 : r.want.grace < r.left
  · have k7 := k5'.resolve_left (fun h => h k6)
    simp [c167, hlenI, w0, w1, w2, eqRun_self, k1, k2, k3, k4, k6, k7]
    exact main _ (by simp [head167])
  · simp [c167, hlenI, w0, w1, w2, eqRun_self, k1, k2, k3, k4, k6]
    exact main _ (by simp [head167])
end Go.Proofs.Ytobpliconmgbcaa
