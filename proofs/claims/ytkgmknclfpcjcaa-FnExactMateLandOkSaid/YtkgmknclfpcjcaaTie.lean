/- That the program's functions are their abstract code: each by the kernel. -/
import Derived.Test.YtkgmknclfpcjcaaTop
import Derived.Test.YtkgmknclfpcjcaaCode
import Derived.Test.YtkgmknclfpcjcaaChecked
import Derived.KernelRfl
namespace Go.Proofs.Ytkgmknclfpcjcaa
open Go
/-- Our numbers, and the program's. -/
def numL : List (Nat × Nat) := [(4, 33), (5, 34), (6, 20), (7, 25), (8, 31), (21, 6), (22, 8), (23, 7), (24, 5), (25, 4), (79, 35), (80, 36), (81, 32), (82, 28), (83, 37), (85, 17), (97, 10), (98, 9), (99, 14), (100, 12), (101, 13), (102, 11), (103, 16), (104, 15), (105, 19), (106, 18), (107, 22), (108, 21), (146, 23), (147, 24), (148, 26), (149, 27), (150, 29), (151, 30), (169, 3)]
def num (k : Nat) : Option FuncId := numL.lookup k
theorem chk4 : chkFn Try.prog num Try.f33 c4 = true := by kernel_rfl
theorem chk5 : chkFn Try.prog num Try.f34 c5 = true := by kernel_rfl
theorem chk6 : chkFn Try.prog num Try.f20 c6 = true := by kernel_rfl
theorem chk7 : chkFn Try.prog num Try.f25 c7 = true := by kernel_rfl
theorem chk8 : chkFn Try.prog num Try.f31 c8 = true := by kernel_rfl
theorem chk21 : chkFn Try.prog num Try.f6 c21 = true := by kernel_rfl
theorem chk22 : chkFn Try.prog num Try.f8 c22 = true := by kernel_rfl
theorem chk23 : chkFn Try.prog num Try.f7 c23 = true := by kernel_rfl
theorem chk24 : chkFn Try.prog num Try.f5 c24 = true := by kernel_rfl
theorem chk25 : chkFn Try.prog num Try.f4 c25 = true := by kernel_rfl
theorem chk79 : chkFn Try.prog num Try.f35 c79 = true := by kernel_rfl
theorem chk80 : chkFn Try.prog num Try.f36 c80 = true := by kernel_rfl
theorem chk81 : chkFn Try.prog num Try.f32 c81 = true := by kernel_rfl
theorem chk82 : chkFn Try.prog num Try.f28 c82 = true := by kernel_rfl
theorem chk83 : chkFn Try.prog num Try.f37 c83 = true := by kernel_rfl
theorem chk85 : chkFn Try.prog num Try.f17 c85 = true := by kernel_rfl
theorem chk97 : chkFn Try.prog num Try.f10 c97 = true := by kernel_rfl
theorem chk98 : chkFn Try.prog num Try.f9 c98 = true := by kernel_rfl
theorem chk99 : chkFn Try.prog num Try.f14 c99 = true := by kernel_rfl
theorem chk100 : chkFn Try.prog num Try.f12 c100 = true := by kernel_rfl
theorem chk101 : chkFn Try.prog num Try.f13 c101 = true := by kernel_rfl
theorem chk102 : chkFn Try.prog num Try.f11 c102 = true := by kernel_rfl
theorem chk103 : chkFn Try.prog num Try.f16 c103 = true := by kernel_rfl
theorem chk104 : chkFn Try.prog num Try.f15 c104 = true := by kernel_rfl
theorem chk105 : chkFn Try.prog num Try.f19 c105 = true := by kernel_rfl
theorem chk106 : chkFn Try.prog num Try.f18 c106 = true := by kernel_rfl
theorem chk107 : chkFn Try.prog num Try.f22 c107 = true := by kernel_rfl
theorem chk108 : chkFn Try.prog num Try.f21 c108 = true := by kernel_rfl
theorem chk146 : chkFn Try.prog num Try.f23 c146 = true := by kernel_rfl
theorem chk147 : chkFn Try.prog num Try.f24 c147 = true := by kernel_rfl
theorem chk148 : chkFn Try.prog num Try.f26 c148 = true := by kernel_rfl
theorem chk149 : chkFn Try.prog num Try.f27 c149 = true := by kernel_rfl
theorem chk150 : chkFn Try.prog num Try.f29 c150 = true := by kernel_rfl
theorem chk151 : chkFn Try.prog num Try.f30 c151 = true := by kernel_rfl
theorem chk169 : chkFn Try.prog num Try.f3 c169 = true := by kernel_rfl
theorem fnsOk : ∀ k c, codeOf k = some c → ∀ f, num k = some f → ∃ fn, Try.prog.funcs[f]? = some fn ∧ chkFn Try.prog num fn c = true := by
  intro k c hk f hf
  unfold codeOf at hk
  split at hk
  · obtain rfl := Option.some.inj hk; obtain rfl : 33 = f := Option.some.inj hf; exact ⟨_, Try.func33, chk4⟩
  · obtain rfl := Option.some.inj hk; obtain rfl : 34 = f := Option.some.inj hf; exact ⟨_, Try.func34, chk5⟩
  · obtain rfl := Option.some.inj hk; obtain rfl : 20 = f := Option.some.inj hf; exact ⟨_, Try.func20, chk6⟩
  · obtain rfl := Option.some.inj hk; obtain rfl : 25 = f := Option.some.inj hf; exact ⟨_, Try.func25, chk7⟩
  · obtain rfl := Option.some.inj hk; obtain rfl : 31 = f := Option.some.inj hf; exact ⟨_, Try.func31, chk8⟩
  · obtain rfl := Option.some.inj hk; obtain rfl : 6 = f := Option.some.inj hf; exact ⟨_, Try.func6, chk21⟩
  · obtain rfl := Option.some.inj hk; obtain rfl : 8 = f := Option.some.inj hf; exact ⟨_, Try.func8, chk22⟩
  · obtain rfl := Option.some.inj hk; obtain rfl : 7 = f := Option.some.inj hf; exact ⟨_, Try.func7, chk23⟩
  · obtain rfl := Option.some.inj hk; obtain rfl : 5 = f := Option.some.inj hf; exact ⟨_, Try.func5, chk24⟩
  · obtain rfl := Option.some.inj hk; obtain rfl : 4 = f := Option.some.inj hf; exact ⟨_, Try.func4, chk25⟩
  · obtain rfl := Option.some.inj hk; obtain rfl : 35 = f := Option.some.inj hf; exact ⟨_, Try.func35, chk79⟩
  · obtain rfl := Option.some.inj hk; obtain rfl : 36 = f := Option.some.inj hf; exact ⟨_, Try.func36, chk80⟩
  · obtain rfl := Option.some.inj hk; obtain rfl : 32 = f := Option.some.inj hf; exact ⟨_, Try.func32, chk81⟩
  · obtain rfl := Option.some.inj hk; obtain rfl : 28 = f := Option.some.inj hf; exact ⟨_, Try.func28, chk82⟩
  · obtain rfl := Option.some.inj hk; obtain rfl : 37 = f := Option.some.inj hf; exact ⟨_, Try.func37, chk83⟩
  · obtain rfl := Option.some.inj hk; obtain rfl : 17 = f := Option.some.inj hf; exact ⟨_, Try.func17, chk85⟩
  · obtain rfl := Option.some.inj hk; obtain rfl : 10 = f := Option.some.inj hf; exact ⟨_, Try.func10, chk97⟩
  · obtain rfl := Option.some.inj hk; obtain rfl : 9 = f := Option.some.inj hf; exact ⟨_, Try.func9, chk98⟩
  · obtain rfl := Option.some.inj hk; obtain rfl : 14 = f := Option.some.inj hf; exact ⟨_, Try.func14, chk99⟩
  · obtain rfl := Option.some.inj hk; obtain rfl : 12 = f := Option.some.inj hf; exact ⟨_, Try.func12, chk100⟩
  · obtain rfl := Option.some.inj hk; obtain rfl : 13 = f := Option.some.inj hf; exact ⟨_, Try.func13, chk101⟩
  · obtain rfl := Option.some.inj hk; obtain rfl : 11 = f := Option.some.inj hf; exact ⟨_, Try.func11, chk102⟩
  · obtain rfl := Option.some.inj hk; obtain rfl : 16 = f := Option.some.inj hf; exact ⟨_, Try.func16, chk103⟩
  · obtain rfl := Option.some.inj hk; obtain rfl : 15 = f := Option.some.inj hf; exact ⟨_, Try.func15, chk104⟩
  · obtain rfl := Option.some.inj hk; obtain rfl : 19 = f := Option.some.inj hf; exact ⟨_, Try.func19, chk105⟩
  · obtain rfl := Option.some.inj hk; obtain rfl : 18 = f := Option.some.inj hf; exact ⟨_, Try.func18, chk106⟩
  · obtain rfl := Option.some.inj hk; obtain rfl : 22 = f := Option.some.inj hf; exact ⟨_, Try.func22, chk107⟩
  · obtain rfl := Option.some.inj hk; obtain rfl : 21 = f := Option.some.inj hf; exact ⟨_, Try.func21, chk108⟩
  · obtain rfl := Option.some.inj hk; obtain rfl : 23 = f := Option.some.inj hf; exact ⟨_, Try.func23, chk146⟩
  · obtain rfl := Option.some.inj hk; obtain rfl : 24 = f := Option.some.inj hf; exact ⟨_, Try.func24, chk147⟩
  · obtain rfl := Option.some.inj hk; obtain rfl : 26 = f := Option.some.inj hf; exact ⟨_, Try.func26, chk148⟩
  · obtain rfl := Option.some.inj hk; obtain rfl : 27 = f := Option.some.inj hf; exact ⟨_, Try.func27, chk149⟩
  · obtain rfl := Option.some.inj hk; obtain rfl : 29 = f := Option.some.inj hf; exact ⟨_, Try.func29, chk150⟩
  · obtain rfl := Option.some.inj hk; obtain rfl : 30 = f := Option.some.inj hf; exact ⟨_, Try.func30, chk151⟩
  · obtain rfl := Option.some.inj hk; obtain rfl : 3 = f := Option.some.inj hf; exact ⟨_, Try.func3, chk169⟩
  · cases hk
theorem tied : Tied Try.prog num P := ⟨by kernel_rfl, fnsOk, fun k f args objs r outs _ _ h => (nomatch h)⟩
end Go.Proofs.Ytkgmknclfpcjcaa
