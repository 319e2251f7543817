/- That the program's functions are their abstract code: each by the kernel. -/
import Derived.Test.YtahgeececclhdaaTop
import Derived.Test.YtahgeececclhdaaCode
import Derived.Test.YtahgeececclhdaaChecked
import Derived.KernelRfl
namespace Go.Proofs.Ytahgeececclhdaa
open Go
/-- Our numbers, and the program's. -/
def numL : List (Nat × Nat) := [(0, 9), (1, 10), (2, 8), (3, 7), (4, 13), (5, 15), (6, 14), (7, 12), (8, 11), (9, 18), (10, 20), (11, 19), (12, 17), (13, 16), (79, 21), (80, 22), (81, 23), (82, 24), (83, 25), (84, 26), (85, 27), (86, 28), (95, 34), (100, 31), (101, 29), (102, 30), (105, 32), (106, 33), (163, 3), (164, 4), (165, 5), (166, 6)]
def num (k : Nat) : Option FuncId := numL.lookup k
theorem chk0 : chkFn Try.prog num Try.f9 c0 = true := by kernel_rfl
theorem chk1 : chkFn Try.prog num Try.f10 c1 = true := by kernel_rfl
theorem chk2 : chkFn Try.prog num Try.f8 c2 = true := by kernel_rfl
theorem chk3 : chkFn Try.prog num Try.f7 c3 = true := by kernel_rfl
theorem chk4 : chkFn Try.prog num Try.f13 c4 = true := by kernel_rfl
theorem chk5 : chkFn Try.prog num Try.f15 c5 = true := by kernel_rfl
theorem chk6 : chkFn Try.prog num Try.f14 c6 = true := by kernel_rfl
theorem chk7 : chkFn Try.prog num Try.f12 c7 = true := by kernel_rfl
theorem chk8 : chkFn Try.prog num Try.f11 c8 = true := by kernel_rfl
theorem chk9 : chkFn Try.prog num Try.f18 c9 = true := by kernel_rfl
theorem chk10 : chkFn Try.prog num Try.f20 c10 = true := by kernel_rfl
theorem chk11 : chkFn Try.prog num Try.f19 c11 = true := by kernel_rfl
theorem chk12 : chkFn Try.prog num Try.f17 c12 = true := by kernel_rfl
theorem chk13 : chkFn Try.prog num Try.f16 c13 = true := by kernel_rfl
theorem chk79 : chkFn Try.prog num Try.f21 c79 = true := by kernel_rfl
theorem chk80 : chkFn Try.prog num Try.f22 c80 = true := by kernel_rfl
theorem chk81 : chkFn Try.prog num Try.f23 c81 = true := by kernel_rfl
theorem chk82 : chkFn Try.prog num Try.f24 c82 = true := by kernel_rfl
theorem chk83 : chkFn Try.prog num Try.f25 c83 = true := by kernel_rfl
theorem chk84 : chkFn Try.prog num Try.f26 c84 = true := by kernel_rfl
theorem chk85 : chkFn Try.prog num Try.f27 c85 = true := by kernel_rfl
theorem chk86 : chkFn Try.prog num Try.f28 c86 = true := by kernel_rfl
theorem chk95 : chkFn Try.prog num Try.f34 c95 = true := by kernel_rfl
theorem chk100 : chkFn Try.prog num Try.f31 c100 = true := by kernel_rfl
theorem chk101 : chkFn Try.prog num Try.f29 c101 = true := by kernel_rfl
theorem chk102 : chkFn Try.prog num Try.f30 c102 = true := by kernel_rfl
theorem chk105 : chkFn Try.prog num Try.f32 c105 = true := by kernel_rfl
theorem chk106 : chkFn Try.prog num Try.f33 c106 = true := by kernel_rfl
theorem chk163 : chkFn Try.prog num Try.f3 c163 = true := by kernel_rfl
theorem chk164 : chkFn Try.prog num Try.f4 c164 = true := by kernel_rfl
theorem chk165 : chkFn Try.prog num Try.f5 c165 = true := by kernel_rfl
theorem chk166 : chkFn Try.prog num Try.f6 c166 = true := by kernel_rfl
theorem fnsOk : ∀ k c, codeOf k = some c → ∀ f, num k = some f → ∃ fn, Try.prog.funcs[f]? = some fn ∧ chkFn Try.prog num fn c = true := by
  intro k c hk f hf
  unfold codeOf at hk
  split at hk
  · obtain rfl := Option.some.inj hk; obtain rfl : 9 = f := Option.some.inj hf; exact ⟨_, Try.func9, chk0⟩
  · obtain rfl := Option.some.inj hk; obtain rfl : 10 = f := Option.some.inj hf; exact ⟨_, Try.func10, chk1⟩
  · obtain rfl := Option.some.inj hk; obtain rfl : 8 = f := Option.some.inj hf; exact ⟨_, Try.func8, chk2⟩
  · obtain rfl := Option.some.inj hk; obtain rfl : 7 = f := Option.some.inj hf; exact ⟨_, Try.func7, chk3⟩
  · obtain rfl := Option.some.inj hk; obtain rfl : 13 = f := Option.some.inj hf; exact ⟨_, Try.func13, chk4⟩
  · obtain rfl := Option.some.inj hk; obtain rfl : 15 = f := Option.some.inj hf; exact ⟨_, Try.func15, chk5⟩
  · obtain rfl := Option.some.inj hk; obtain rfl : 14 = f := Option.some.inj hf; exact ⟨_, Try.func14, chk6⟩
  · obtain rfl := Option.some.inj hk; obtain rfl : 12 = f := Option.some.inj hf; exact ⟨_, Try.func12, chk7⟩
  · obtain rfl := Option.some.inj hk; obtain rfl : 11 = f := Option.some.inj hf; exact ⟨_, Try.func11, chk8⟩
  · obtain rfl := Option.some.inj hk; obtain rfl : 18 = f := Option.some.inj hf; exact ⟨_, Try.func18, chk9⟩
  · obtain rfl := Option.some.inj hk; obtain rfl : 20 = f := Option.some.inj hf; exact ⟨_, Try.func20, chk10⟩
  · obtain rfl := Option.some.inj hk; obtain rfl : 19 = f := Option.some.inj hf; exact ⟨_, Try.func19, chk11⟩
  · obtain rfl := Option.some.inj hk; obtain rfl : 17 = f := Option.some.inj hf; exact ⟨_, Try.func17, chk12⟩
  · obtain rfl := Option.some.inj hk; obtain rfl : 16 = f := Option.some.inj hf; exact ⟨_, Try.func16, chk13⟩
  · obtain rfl := Option.some.inj hk; obtain rfl : 21 = f := Option.some.inj hf; exact ⟨_, Try.func21, chk79⟩
  · obtain rfl := Option.some.inj hk; obtain rfl : 22 = f := Option.some.inj hf; exact ⟨_, Try.func22, chk80⟩
  · obtain rfl := Option.some.inj hk; obtain rfl : 23 = f := Option.some.inj hf; exact ⟨_, Try.func23, chk81⟩
  · obtain rfl := Option.some.inj hk; obtain rfl : 24 = f := Option.some.inj hf; exact ⟨_, Try.func24, chk82⟩
  · obtain rfl := Option.some.inj hk; obtain rfl : 25 = f := Option.some.inj hf; exact ⟨_, Try.func25, chk83⟩
  · obtain rfl := Option.some.inj hk; obtain rfl : 26 = f := Option.some.inj hf; exact ⟨_, Try.func26, chk84⟩
  · obtain rfl := Option.some.inj hk; obtain rfl : 27 = f := Option.some.inj hf; exact ⟨_, Try.func27, chk85⟩
  · obtain rfl := Option.some.inj hk; obtain rfl : 28 = f := Option.some.inj hf; exact ⟨_, Try.func28, chk86⟩
  · obtain rfl := Option.some.inj hk; obtain rfl : 34 = f := Option.some.inj hf; exact ⟨_, Try.func34, chk95⟩
  · obtain rfl := Option.some.inj hk; obtain rfl : 31 = f := Option.some.inj hf; exact ⟨_, Try.func31, chk100⟩
  · obtain rfl := Option.some.inj hk; obtain rfl : 29 = f := Option.some.inj hf; exact ⟨_, Try.func29, chk101⟩
  · obtain rfl := Option.some.inj hk; obtain rfl : 30 = f := Option.some.inj hf; exact ⟨_, Try.func30, chk102⟩
  · obtain rfl := Option.some.inj hk; obtain rfl : 32 = f := Option.some.inj hf; exact ⟨_, Try.func32, chk105⟩
  · obtain rfl := Option.some.inj hk; obtain rfl : 33 = f := Option.some.inj hf; exact ⟨_, Try.func33, chk106⟩
  · obtain rfl := Option.some.inj hk; obtain rfl : 3 = f := Option.some.inj hf; exact ⟨_, Try.func3, chk163⟩
  · obtain rfl := Option.some.inj hk; obtain rfl : 4 = f := Option.some.inj hf; exact ⟨_, Try.func4, chk164⟩
  · obtain rfl := Option.some.inj hk; obtain rfl : 5 = f := Option.some.inj hf; exact ⟨_, Try.func5, chk165⟩
  · obtain rfl := Option.some.inj hk; obtain rfl : 6 = f := Option.some.inj hf; exact ⟨_, Try.func6, chk166⟩
  · cases hk
theorem tied : Tied Try.prog num P := ⟨by kernel_rfl, fnsOk, fun k f args objs r outs _ _ h => (nomatch h)⟩
end Go.Proofs.Ytahgeececclhdaa
