/- That the program's functions are their abstract code: each by the kernel. -/
import Derived.Test.YtdkjfpkfjkfpbaaTop
import Derived.Test.YtdkjfpkfjkfpbaaCode
import Derived.Test.YtdkjfpkfjkfpbaaChecked
import Derived.KernelRfl
namespace Go.Proofs.Ytdkjfpkfjkfpbaa
open Go
/-- Our numbers, and the program's. -/
def numL : List (Nat × Nat) := [(4, 49), (5, 46), (6, 43), (7, 48), (8, 47), (21, 6), (22, 8), (23, 20), (24, 16), (25, 4), (38, 13), (39, 12), (40, 9), (41, 7), (42, 11), (43, 10), (44, 5), (63, 24), (71, 28), (79, 52), (80, 54), (81, 53), (82, 50), (83, 51), (85, 40), (96, 27), (97, 15), (98, 14), (99, 37), (100, 35), (101, 36), (102, 34), (103, 19), (104, 18), (105, 42), (106, 41), (107, 23), (108, 22), (121, 17), (122, 21), (123, 26), (124, 25), (125, 30), (126, 29), (127, 31), (146, 32), (147, 33), (148, 38), (149, 39), (150, 44), (151, 45), (172, 3)]
def num (k : Nat) : Option FuncId := numL.lookup k
theorem chk4 : chkFn Try.prog num Try.f49 c4 = true := by kernel_rfl
theorem chk5 : chkFn Try.prog num Try.f46 c5 = true := by kernel_rfl
theorem chk6 : chkFn Try.prog num Try.f43 c6 = true := by kernel_rfl
theorem chk7 : chkFn Try.prog num Try.f48 c7 = true := by kernel_rfl
theorem chk8 : chkFn Try.prog num Try.f47 c8 = true := by kernel_rfl
theorem chk21 : chkFn Try.prog num Try.f6 c21 = true := by kernel_rfl
theorem chk22 : chkFn Try.prog num Try.f8 c22 = true := by kernel_rfl
theorem chk23 : chkFn Try.prog num Try.f20 c23 = true := by kernel_rfl
theorem chk24 : chkFn Try.prog num Try.f16 c24 = true := by kernel_rfl
theorem chk25 : chkFn Try.prog num Try.f4 c25 = true := by kernel_rfl
theorem chk38 : chkFn Try.prog num Try.f13 c38 = true := by kernel_rfl
theorem chk39 : chkFn Try.prog num Try.f12 c39 = true := by kernel_rfl
theorem chk40 : chkFn Try.prog num Try.f9 c40 = true := by kernel_rfl
theorem chk41 : chkFn Try.prog num Try.f7 c41 = true := by kernel_rfl
theorem chk42 : chkFn Try.prog num Try.f11 c42 = true := by kernel_rfl
theorem chk43 : chkFn Try.prog num Try.f10 c43 = true := by kernel_rfl
theorem chk44 : chkFn Try.prog num Try.f5 c44 = true := by kernel_rfl
theorem chk63 : chkFn Try.prog num Try.f24 c63 = true := by kernel_rfl
theorem chk71 : chkFn Try.prog num Try.f28 c71 = true := by kernel_rfl
theorem chk79 : chkFn Try.prog num Try.f52 c79 = true := by kernel_rfl
theorem chk80 : chkFn Try.prog num Try.f54 c80 = true := by kernel_rfl
theorem chk81 : chkFn Try.prog num Try.f53 c81 = true := by kernel_rfl
theorem chk82 : chkFn Try.prog num Try.f50 c82 = true := by kernel_rfl
theorem chk83 : chkFn Try.prog num Try.f51 c83 = true := by kernel_rfl
theorem chk85 : chkFn Try.prog num Try.f40 c85 = true := by kernel_rfl
theorem chk96 : chkFn Try.prog num Try.f27 c96 = true := by kernel_rfl
theorem chk97 : chkFn Try.prog num Try.f15 c97 = true := by kernel_rfl
theorem chk98 : chkFn Try.prog num Try.f14 c98 = true := by kernel_rfl
theorem chk99 : chkFn Try.prog num Try.f37 c99 = true := by kernel_rfl
theorem chk100 : chkFn Try.prog num Try.f35 c100 = true := by kernel_rfl
theorem chk101 : chkFn Try.prog num Try.f36 c101 = true := by kernel_rfl
theorem chk102 : chkFn Try.prog num Try.f34 c102 = true := by kernel_rfl
theorem chk103 : chkFn Try.prog num Try.f19 c103 = true := by kernel_rfl
theorem chk104 : chkFn Try.prog num Try.f18 c104 = true := by kernel_rfl
theorem chk105 : chkFn Try.prog num Try.f42 c105 = true := by kernel_rfl
theorem chk106 : chkFn Try.prog num Try.f41 c106 = true := by kernel_rfl
theorem chk107 : chkFn Try.prog num Try.f23 c107 = true := by kernel_rfl
theorem chk108 : chkFn Try.prog num Try.f22 c108 = true := by kernel_rfl
theorem chk121 : chkFn Try.prog num Try.f17 c121 = true := by kernel_rfl
theorem chk122 : chkFn Try.prog num Try.f21 c122 = true := by kernel_rfl
theorem chk123 : chkFn Try.prog num Try.f26 c123 = true := by kernel_rfl
theorem chk124 : chkFn Try.prog num Try.f25 c124 = true := by kernel_rfl
theorem chk125 : chkFn Try.prog num Try.f30 c125 = true := by kernel_rfl
theorem chk126 : chkFn Try.prog num Try.f29 c126 = true := by kernel_rfl
theorem chk127 : chkFn Try.prog num Try.f31 c127 = true := by kernel_rfl
theorem chk146 : chkFn Try.prog num Try.f32 c146 = true := by kernel_rfl
theorem chk147 : chkFn Try.prog num Try.f33 c147 = true := by kernel_rfl
theorem chk148 : chkFn Try.prog num Try.f38 c148 = true := by kernel_rfl
theorem chk149 : chkFn Try.prog num Try.f39 c149 = true := by kernel_rfl
theorem chk150 : chkFn Try.prog num Try.f44 c150 = true := by kernel_rfl
theorem chk151 : chkFn Try.prog num Try.f45 c151 = true := by kernel_rfl
theorem chk172 : chkFn Try.prog num Try.f3 c172 = true := by kernel_rfl
theorem fnsOk : ∀ k c, codeOf k = some c → ∀ f, num k = some f → ∃ fn, Try.prog.funcs[f]? = some fn ∧ chkFn Try.prog num fn c = true := by
  intro k c hk f hf
  unfold codeOf at hk
  split at hk
  · obtain rfl := Option.some.inj hk; obtain rfl : 49 = f := Option.some.inj hf; exact ⟨_, Try.func49, chk4⟩
  · obtain rfl := Option.some.inj hk; obtain rfl : 46 = f := Option.some.inj hf; exact ⟨_, Try.func46, chk5⟩
  · obtain rfl := Option.some.inj hk; obtain rfl : 43 = f := Option.some.inj hf; exact ⟨_, Try.func43, chk6⟩
  · obtain rfl := Option.some.inj hk; obtain rfl : 48 = f := Option.some.inj hf; exact ⟨_, Try.func48, chk7⟩
  · obtain rfl := Option.some.inj hk; obtain rfl : 47 = f := Option.some.inj hf; exact ⟨_, Try.func47, chk8⟩
  · obtain rfl := Option.some.inj hk; obtain rfl : 6 = f := Option.some.inj hf; exact ⟨_, Try.func6, chk21⟩
  · obtain rfl := Option.some.inj hk; obtain rfl : 8 = f := Option.some.inj hf; exact ⟨_, Try.func8, chk22⟩
  · obtain rfl := Option.some.inj hk; obtain rfl : 20 = f := Option.some.inj hf; exact ⟨_, Try.func20, chk23⟩
  · obtain rfl := Option.some.inj hk; obtain rfl : 16 = f := Option.some.inj hf; exact ⟨_, Try.func16, chk24⟩
  · obtain rfl := Option.some.inj hk; obtain rfl : 4 = f := Option.some.inj hf; exact ⟨_, Try.func4, chk25⟩
  · obtain rfl := Option.some.inj hk; obtain rfl : 13 = f := Option.some.inj hf; exact ⟨_, Try.func13, chk38⟩
  · obtain rfl := Option.some.inj hk; obtain rfl : 12 = f := Option.some.inj hf; exact ⟨_, Try.func12, chk39⟩
  · obtain rfl := Option.some.inj hk; obtain rfl : 9 = f := Option.some.inj hf; exact ⟨_, Try.func9, chk40⟩
  · obtain rfl := Option.some.inj hk; obtain rfl : 7 = f := Option.some.inj hf; exact ⟨_, Try.func7, chk41⟩
  · obtain rfl := Option.some.inj hk; obtain rfl : 11 = f := Option.some.inj hf; exact ⟨_, Try.func11, chk42⟩
  · obtain rfl := Option.some.inj hk; obtain rfl : 10 = f := Option.some.inj hf; exact ⟨_, Try.func10, chk43⟩
  · obtain rfl := Option.some.inj hk; obtain rfl : 5 = f := Option.some.inj hf; exact ⟨_, Try.func5, chk44⟩
  · obtain rfl := Option.some.inj hk; obtain rfl : 24 = f := Option.some.inj hf; exact ⟨_, Try.func24, chk63⟩
  · obtain rfl := Option.some.inj hk; obtain rfl : 28 = f := Option.some.inj hf; exact ⟨_, Try.func28, chk71⟩
  · obtain rfl := Option.some.inj hk; obtain rfl : 52 = f := Option.some.inj hf; exact ⟨_, Try.func52, chk79⟩
  · obtain rfl := Option.some.inj hk; obtain rfl : 54 = f := Option.some.inj hf; exact ⟨_, Try.func54, chk80⟩
  · obtain rfl := Option.some.inj hk; obtain rfl : 53 = f := Option.some.inj hf; exact ⟨_, Try.func53, chk81⟩
  · obtain rfl := Option.some.inj hk; obtain rfl : 50 = f := Option.some.inj hf; exact ⟨_, Try.func50, chk82⟩
  · obtain rfl := Option.some.inj hk; obtain rfl : 51 = f := Option.some.inj hf; exact ⟨_, Try.func51, chk83⟩
  · obtain rfl := Option.some.inj hk; obtain rfl : 40 = f := Option.some.inj hf; exact ⟨_, Try.func40, chk85⟩
  · obtain rfl := Option.some.inj hk; obtain rfl : 27 = f := Option.some.inj hf; exact ⟨_, Try.func27, chk96⟩
  · obtain rfl := Option.some.inj hk; obtain rfl : 15 = f := Option.some.inj hf; exact ⟨_, Try.func15, chk97⟩
  · obtain rfl := Option.some.inj hk; obtain rfl : 14 = f := Option.some.inj hf; exact ⟨_, Try.func14, chk98⟩
  · obtain rfl := Option.some.inj hk; obtain rfl : 37 = f := Option.some.inj hf; exact ⟨_, Try.func37, chk99⟩
  · obtain rfl := Option.some.inj hk; obtain rfl : 35 = f := Option.some.inj hf; exact ⟨_, Try.func35, chk100⟩
  · obtain rfl := Option.some.inj hk; obtain rfl : 36 = f := Option.some.inj hf; exact ⟨_, Try.func36, chk101⟩
  · obtain rfl := Option.some.inj hk; obtain rfl : 34 = f := Option.some.inj hf; exact ⟨_, Try.func34, chk102⟩
  · obtain rfl := Option.some.inj hk; obtain rfl : 19 = f := Option.some.inj hf; exact ⟨_, Try.func19, chk103⟩
  · obtain rfl := Option.some.inj hk; obtain rfl : 18 = f := Option.some.inj hf; exact ⟨_, Try.func18, chk104⟩
  · obtain rfl := Option.some.inj hk; obtain rfl : 42 = f := Option.some.inj hf; exact ⟨_, Try.func42, chk105⟩
  · obtain rfl := Option.some.inj hk; obtain rfl : 41 = f := Option.some.inj hf; exact ⟨_, Try.func41, chk106⟩
  · obtain rfl := Option.some.inj hk; obtain rfl : 23 = f := Option.some.inj hf; exact ⟨_, Try.func23, chk107⟩
  · obtain rfl := Option.some.inj hk; obtain rfl : 22 = f := Option.some.inj hf; exact ⟨_, Try.func22, chk108⟩
  · obtain rfl := Option.some.inj hk; obtain rfl : 17 = f := Option.some.inj hf; exact ⟨_, Try.func17, chk121⟩
  · obtain rfl := Option.some.inj hk; obtain rfl : 21 = f := Option.some.inj hf; exact ⟨_, Try.func21, chk122⟩
  · obtain rfl := Option.some.inj hk; obtain rfl : 26 = f := Option.some.inj hf; exact ⟨_, Try.func26, chk123⟩
  · obtain rfl := Option.some.inj hk; obtain rfl : 25 = f := Option.some.inj hf; exact ⟨_, Try.func25, chk124⟩
  · obtain rfl := Option.some.inj hk; obtain rfl : 30 = f := Option.some.inj hf; exact ⟨_, Try.func30, chk125⟩
  · obtain rfl := Option.some.inj hk; obtain rfl : 29 = f := Option.some.inj hf; exact ⟨_, Try.func29, chk126⟩
  · obtain rfl := Option.some.inj hk; obtain rfl : 31 = f := Option.some.inj hf; exact ⟨_, Try.func31, chk127⟩
  · obtain rfl := Option.some.inj hk; obtain rfl : 32 = f := Option.some.inj hf; exact ⟨_, Try.func32, chk146⟩
  · obtain rfl := Option.some.inj hk; obtain rfl : 33 = f := Option.some.inj hf; exact ⟨_, Try.func33, chk147⟩
  · obtain rfl := Option.some.inj hk; obtain rfl : 38 = f := Option.some.inj hf; exact ⟨_, Try.func38, chk148⟩
  · obtain rfl := Option.some.inj hk; obtain rfl : 39 = f := Option.some.inj hf; exact ⟨_, Try.func39, chk149⟩
  · obtain rfl := Option.some.inj hk; obtain rfl : 44 = f := Option.some.inj hf; exact ⟨_, Try.func44, chk150⟩
  · obtain rfl := Option.some.inj hk; obtain rfl : 45 = f := Option.some.inj hf; exact ⟨_, Try.func45, chk151⟩
  · obtain rfl := Option.some.inj hk; obtain rfl : 3 = f := Option.some.inj hf; exact ⟨_, Try.func3, chk172⟩
  · cases hk
theorem tied : Tied Try.prog num P := ⟨by kernel_rfl, fnsOk, fun k f args objs r outs _ _ h => (nomatch h)⟩
end Go.Proofs.Ytdkjfpkfjkfpbaa
