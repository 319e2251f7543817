/- That the program's functions are their abstract code: each by the kernel. -/
import Derived.Test.YteimndhhllfdnaaTop
import Derived.Test.YteimndhhllfdnaaCode
import Derived.Test.YteimndhhllfdnaaChecked
import Derived.KernelRfl
namespace Go.Proofs.Yteimndhhllfdnaa
open Go
/-- Our numbers, and the program's. -/
def numL : List (Nat × Nat) := [(0, 39), (1, 28), (2, 18), (3, 33), (4, 19), (5, 29), (6, 24), (7, 14), (8, 9), (9, 20), (10, 30), (11, 25), (12, 15), (13, 10), (26, 6), (27, 8), (28, 7), (29, 5), (30, 4), (79, 32), (80, 38), (81, 35), (82, 41), (83, 43), (84, 36), (85, 23), (86, 44), (95, 46), (100, 37), (101, 12), (102, 13), (105, 22), (106, 42), (109, 11), (110, 17), (111, 16), (112, 21), (113, 27), (114, 26), (115, 31), (152, 34), (153, 40), (154, 45), (170, 3)]
def num (k : Nat) : Option FuncId := numL.lookup k
theorem chk0 : chkFn Try.prog num Try.f39 c0 = true := by kernel_rfl
theorem chk1 : chkFn Try.prog num Try.f28 c1 = true := by kernel_rfl
theorem chk2 : chkFn Try.prog num Try.f18 c2 = true := by kernel_rfl
theorem chk3 : chkFn Try.prog num Try.f33 c3 = true := by kernel_rfl
theorem chk4 : chkFn Try.prog num Try.f19 c4 = true := by kernel_rfl
theorem chk5 : chkFn Try.prog num Try.f29 c5 = true := by kernel_rfl
theorem chk6 : chkFn Try.prog num Try.f24 c6 = true := by kernel_rfl
theorem chk7 : chkFn Try.prog num Try.f14 c7 = true := by kernel_rfl
theorem chk8 : chkFn Try.prog num Try.f9 c8 = true := by kernel_rfl
theorem chk9 : chkFn Try.prog num Try.f20 c9 = true := by kernel_rfl
theorem chk10 : chkFn Try.prog num Try.f30 c10 = true := by kernel_rfl
theorem chk11 : chkFn Try.prog num Try.f25 c11 = true := by kernel_rfl
theorem chk12 : chkFn Try.prog num Try.f15 c12 = true := by kernel_rfl
theorem chk13 : chkFn Try.prog num Try.f10 c13 = true := by kernel_rfl
theorem chk26 : chkFn Try.prog num Try.f6 c26 = true := by kernel_rfl
theorem chk27 : chkFn Try.prog num Try.f8 c27 = true := by kernel_rfl
theorem chk28 : chkFn Try.prog num Try.f7 c28 = true := by kernel_rfl
theorem chk29 : chkFn Try.prog num Try.f5 c29 = true := by kernel_rfl
theorem chk30 : chkFn Try.prog num Try.f4 c30 = true := by kernel_rfl
theorem chk79 : chkFn Try.prog num Try.f32 c79 = true := by kernel_rfl
theorem chk80 : chkFn Try.prog num Try.f38 c80 = true := by kernel_rfl
theorem chk81 : chkFn Try.prog num Try.f35 c81 = true := by kernel_rfl
theorem chk82 : chkFn Try.prog num Try.f41 c82 = true := by kernel_rfl
theorem chk83 : chkFn Try.prog num Try.f43 c83 = true := by kernel_rfl
theorem chk84 : chkFn Try.prog num Try.f36 c84 = true := by kernel_rfl
theorem chk85 : chkFn Try.prog num Try.f23 c85 = true := by kernel_rfl
theorem chk86 : chkFn Try.prog num Try.f44 c86 = true := by kernel_rfl
theorem chk95 : chkFn Try.prog num Try.f46 c95 = true := by kernel_rfl
theorem chk100 : chkFn Try.prog num Try.f37 c100 = true := by kernel_rfl
theorem chk101 : chkFn Try.prog num Try.f12 c101 = true := by kernel_rfl
theorem chk102 : chkFn Try.prog num Try.f13 c102 = true := by kernel_rfl
theorem chk105 : chkFn Try.prog num Try.f22 c105 = true := by kernel_rfl
theorem chk106 : chkFn Try.prog num Try.f42 c106 = true := by kernel_rfl
theorem chk109 : chkFn Try.prog num Try.f11 c109 = true := by kernel_rfl
theorem chk110 : chkFn Try.prog num Try.f17 c110 = true := by kernel_rfl
theorem chk111 : chkFn Try.prog num Try.f16 c111 = true := by kernel_rfl
theorem chk112 : chkFn Try.prog num Try.f21 c112 = true := by kernel_rfl
theorem chk113 : chkFn Try.prog num Try.f27 c113 = true := by kernel_rfl
theorem chk114 : chkFn Try.prog num Try.f26 c114 = true := by kernel_rfl
theorem chk115 : chkFn Try.prog num Try.f31 c115 = true := by kernel_rfl
theorem chk152 : chkFn Try.prog num Try.f34 c152 = true := by kernel_rfl
theorem chk153 : chkFn Try.prog num Try.f40 c153 = true := by kernel_rfl
theorem chk154 : chkFn Try.prog num Try.f45 c154 = true := by kernel_rfl
theorem chk170 : chkFn Try.prog num Try.f3 c170 = true := by kernel_rfl
theorem fnsOk : ∀ k c, codeOf k = some c → ∀ f, num k = some f → ∃ fn, Try.prog.funcs[f]? = some fn ∧ chkFn Try.prog num fn c = true := by
  intro k c hk f hf
  unfold codeOf at hk
  split at hk
  · obtain rfl := Option.some.inj hk; obtain rfl : 39 = f := Option.some.inj hf; exact ⟨_, Try.func39, chk0⟩
  · obtain rfl := Option.some.inj hk; obtain rfl : 28 = f := Option.some.inj hf; exact ⟨_, Try.func28, chk1⟩
  · obtain rfl := Option.some.inj hk; obtain rfl : 18 = f := Option.some.inj hf; exact ⟨_, Try.func18, chk2⟩
  · obtain rfl := Option.some.inj hk; obtain rfl : 33 = f := Option.some.inj hf; exact ⟨_, Try.func33, chk3⟩
  · obtain rfl := Option.some.inj hk; obtain rfl : 19 = f := Option.some.inj hf; exact ⟨_, Try.func19, chk4⟩
  · obtain rfl := Option.some.inj hk; obtain rfl : 29 = f := Option.some.inj hf; exact ⟨_, Try.func29, chk5⟩
  · obtain rfl := Option.some.inj hk; obtain rfl : 24 = f := Option.some.inj hf; exact ⟨_, Try.func24, chk6⟩
  · obtain rfl := Option.some.inj hk; obtain rfl : 14 = f := Option.some.inj hf; exact ⟨_, Try.func14, chk7⟩
  · obtain rfl := Option.some.inj hk; obtain rfl : 9 = f := Option.some.inj hf; exact ⟨_, Try.func9, chk8⟩
  · obtain rfl := Option.some.inj hk; obtain rfl : 20 = f := Option.some.inj hf; exact ⟨_, Try.func20, chk9⟩
  · obtain rfl := Option.some.inj hk; obtain rfl : 30 = f := Option.some.inj hf; exact ⟨_, Try.func30, chk10⟩
  · obtain rfl := Option.some.inj hk; obtain rfl : 25 = f := Option.some.inj hf; exact ⟨_, Try.func25, chk11⟩
  · obtain rfl := Option.some.inj hk; obtain rfl : 15 = f := Option.some.inj hf; exact ⟨_, Try.func15, chk12⟩
  · obtain rfl := Option.some.inj hk; obtain rfl : 10 = f := Option.some.inj hf; exact ⟨_, Try.func10, chk13⟩
  · obtain rfl := Option.some.inj hk; obtain rfl : 6 = f := Option.some.inj hf; exact ⟨_, Try.func6, chk26⟩
  · obtain rfl := Option.some.inj hk; obtain rfl : 8 = f := Option.some.inj hf; exact ⟨_, Try.func8, chk27⟩
  · obtain rfl := Option.some.inj hk; obtain rfl : 7 = f := Option.some.inj hf; exact ⟨_, Try.func7, chk28⟩
  · obtain rfl := Option.some.inj hk; obtain rfl : 5 = f := Option.some.inj hf; exact ⟨_, Try.func5, chk29⟩
  · obtain rfl := Option.some.inj hk; obtain rfl : 4 = f := Option.some.inj hf; exact ⟨_, Try.func4, chk30⟩
  · obtain rfl := Option.some.inj hk; obtain rfl : 32 = f := Option.some.inj hf; exact ⟨_, Try.func32, chk79⟩
  · obtain rfl := Option.some.inj hk; obtain rfl : 38 = f := Option.some.inj hf; exact ⟨_, Try.func38, chk80⟩
  · obtain rfl := Option.some.inj hk; obtain rfl : 35 = f := Option.some.inj hf; exact ⟨_, Try.func35, chk81⟩
  · obtain rfl := Option.some.inj hk; obtain rfl : 41 = f := Option.some.inj hf; exact ⟨_, Try.func41, chk82⟩
  · obtain rfl := Option.some.inj hk; obtain rfl : 43 = f := Option.some.inj hf; exact ⟨_, Try.func43, chk83⟩
  · obtain rfl := Option.some.inj hk; obtain rfl : 36 = f := Option.some.inj hf; exact ⟨_, Try.func36, chk84⟩
  · obtain rfl := Option.some.inj hk; obtain rfl : 23 = f := Option.some.inj hf; exact ⟨_, Try.func23, chk85⟩
  · obtain rfl := Option.some.inj hk; obtain rfl : 44 = f := Option.some.inj hf; exact ⟨_, Try.func44, chk86⟩
  · obtain rfl := Option.some.inj hk; obtain rfl : 46 = f := Option.some.inj hf; exact ⟨_, Try.func46, chk95⟩
  · obtain rfl := Option.some.inj hk; obtain rfl : 37 = f := Option.some.inj hf; exact ⟨_, Try.func37, chk100⟩
  · obtain rfl := Option.some.inj hk; obtain rfl : 12 = f := Option.some.inj hf; exact ⟨_, Try.func12, chk101⟩
  · obtain rfl := Option.some.inj hk; obtain rfl : 13 = f := Option.some.inj hf; exact ⟨_, Try.func13, chk102⟩
  · obtain rfl := Option.some.inj hk; obtain rfl : 22 = f := Option.some.inj hf; exact ⟨_, Try.func22, chk105⟩
  · obtain rfl := Option.some.inj hk; obtain rfl : 42 = f := Option.some.inj hf; exact ⟨_, Try.func42, chk106⟩
  · obtain rfl := Option.some.inj hk; obtain rfl : 11 = f := Option.some.inj hf; exact ⟨_, Try.func11, chk109⟩
  · obtain rfl := Option.some.inj hk; obtain rfl : 17 = f := Option.some.inj hf; exact ⟨_, Try.func17, chk110⟩
  · obtain rfl := Option.some.inj hk; obtain rfl : 16 = f := Option.some.inj hf; exact ⟨_, Try.func16, chk111⟩
  · obtain rfl := Option.some.inj hk; obtain rfl : 21 = f := Option.some.inj hf; exact ⟨_, Try.func21, chk112⟩
  · obtain rfl := Option.some.inj hk; obtain rfl : 27 = f := Option.some.inj hf; exact ⟨_, Try.func27, chk113⟩
  · obtain rfl := Option.some.inj hk; obtain rfl : 26 = f := Option.some.inj hf; exact ⟨_, Try.func26, chk114⟩
  · obtain rfl := Option.some.inj hk; obtain rfl : 31 = f := Option.some.inj hf; exact ⟨_, Try.func31, chk115⟩
  · obtain rfl := Option.some.inj hk; obtain rfl : 34 = f := Option.some.inj hf; exact ⟨_, Try.func34, chk152⟩
  · obtain rfl := Option.some.inj hk; obtain rfl : 40 = f := Option.some.inj hf; exact ⟨_, Try.func40, chk153⟩
  · obtain rfl := Option.some.inj hk; obtain rfl : 45 = f := Option.some.inj hf; exact ⟨_, Try.func45, chk154⟩
  · obtain rfl := Option.some.inj hk; obtain rfl : 3 = f := Option.some.inj hf; exact ⟨_, Try.func3, chk170⟩
  · cases hk
theorem tied : Tied Try.prog num P := ⟨by kernel_rfl, fnsOk, fun k f args objs r outs _ _ h => (nomatch h)⟩
end Go.Proofs.Yteimndhhllfdnaa
