/- That the program's functions are their abstract code: each by the kernel. -/
import Derived.Test.YtojihfiloldkgaaTop
import Derived.Test.YtojihfiloldkgaaCode
import Derived.Test.YtojihfiloldkgaaChecked
import Derived.KernelRfl
namespace Go.Proofs.Ytojihfiloldkgaa
open Go
/-- Our numbers, and the program's. -/
def numL : List (Nat × Nat) := [(2, 46), (5, 49), (7, 42), (10, 50), (12, 43), (17, 37), (19, 32), (22, 15), (24, 23), (27, 28), (29, 25), (39, 20), (43, 18), (47, 12), (48, 8), (49, 6), (50, 7), (51, 11), (52, 10), (53, 9), (54, 5), (55, 4), (58, 13), (71, 31), (81, 52), (83, 54), (84, 53), (86, 55), (95, 57), (96, 17), (99, 41), (100, 39), (101, 40), (102, 24), (105, 14), (107, 27), (108, 26), (110, 45), (111, 44), (115, 51), (123, 30), (124, 29), (125, 35), (126, 34), (127, 36), (128, 33), (129, 38), (130, 16), (131, 19), (132, 22), (133, 21), (150, 47), (151, 48), (154, 56), (175, 3)]
def num (k : Nat) : Option FuncId := numL.lookup k
theorem chk2 : chkFn Try.prog num Try.f46 c2 = true := by kernel_rfl
theorem chk5 : chkFn Try.prog num Try.f49 c5 = true := by kernel_rfl
theorem chk7 : chkFn Try.prog num Try.f42 c7 = true := by kernel_rfl
theorem chk10 : chkFn Try.prog num Try.f50 c10 = true := by kernel_rfl
theorem chk12 : chkFn Try.prog num Try.f43 c12 = true := by kernel_rfl
theorem chk17 : chkFn Try.prog num Try.f37 c17 = true := by kernel_rfl
theorem chk19 : chkFn Try.prog num Try.f32 c19 = true := by kernel_rfl
theorem chk22 : chkFn Try.prog num Try.f15 c22 = true := by kernel_rfl
theorem chk24 : chkFn Try.prog num Try.f23 c24 = true := by kernel_rfl
theorem chk27 : chkFn Try.prog num Try.f28 c27 = true := by kernel_rfl
theorem chk29 : chkFn Try.prog num Try.f25 c29 = true := by kernel_rfl
theorem chk39 : chkFn Try.prog num Try.f20 c39 = true := by kernel_rfl
theorem chk43 : chkFn Try.prog num Try.f18 c43 = true := by kernel_rfl
theorem chk47 : chkFn Try.prog num Try.f12 c47 = true := by kernel_rfl
theorem chk48 : chkFn Try.prog num Try.f8 c48 = true := by kernel_rfl
theorem chk49 : chkFn Try.prog num Try.f6 c49 = true := by kernel_rfl
theorem chk50 : chkFn Try.prog num Try.f7 c50 = true := by kernel_rfl
theorem chk51 : chkFn Try.prog num Try.f11 c51 = true := by kernel_rfl
theorem chk52 : chkFn Try.prog num Try.f10 c52 = true := by kernel_rfl
theorem chk53 : chkFn Try.prog num Try.f9 c53 = true := by kernel_rfl
theorem chk54 : chkFn Try.prog num Try.f5 c54 = true := by kernel_rfl
theorem chk55 : chkFn Try.prog num Try.f4 c55 = true := by kernel_rfl
theorem chk58 : chkFn Try.prog num Try.f13 c58 = true := by kernel_rfl
theorem chk71 : chkFn Try.prog num Try.f31 c71 = true := by kernel_rfl
theorem chk81 : chkFn Try.prog num Try.f52 c81 = true := by kernel_rfl
theorem chk83 : chkFn Try.prog num Try.f54 c83 = true := by kernel_rfl
theorem chk84 : chkFn Try.prog num Try.f53 c84 = true := by kernel_rfl
theorem chk86 : chkFn Try.prog num Try.f55 c86 = true := by kernel_rfl
theorem chk95 : chkFn Try.prog num Try.f57 c95 = true := by kernel_rfl
theorem chk96 : chkFn Try.prog num Try.f17 c96 = true := by kernel_rfl
theorem chk99 : chkFn Try.prog num Try.f41 c99 = true := by kernel_rfl
theorem chk100 : chkFn Try.prog num Try.f39 c100 = true := by kernel_rfl
theorem chk101 : chkFn Try.prog num Try.f40 c101 = true := by kernel_rfl
theorem chk102 : chkFn Try.prog num Try.f24 c102 = true := by kernel_rfl
theorem chk105 : chkFn Try.prog num Try.f14 c105 = true := by kernel_rfl
theorem chk107 : chkFn Try.prog num Try.f27 c107 = true := by kernel_rfl
theorem chk108 : chkFn Try.prog num Try.f26 c108 = true := by kernel_rfl
theorem chk110 : chkFn Try.prog num Try.f45 c110 = true := by kernel_rfl
theorem chk111 : chkFn Try.prog num Try.f44 c111 = true := by kernel_rfl
theorem chk115 : chkFn Try.prog num Try.f51 c115 = true := by kernel_rfl
theorem chk123 : chkFn Try.prog num Try.f30 c123 = true := by kernel_rfl
theorem chk124 : chkFn Try.prog num Try.f29 c124 = true := by kernel_rfl
theorem chk125 : chkFn Try.prog num Try.f35 c125 = true := by kernel_rfl
theorem chk126 : chkFn Try.prog num Try.f34 c126 = true := by kernel_rfl
theorem chk127 : chkFn Try.prog num Try.f36 c127 = true := by kernel_rfl
theorem chk128 : chkFn Try.prog num Try.f33 c128 = true := by kernel_rfl
theorem chk129 : chkFn Try.prog num Try.f38 c129 = true := by kernel_rfl
theorem chk130 : chkFn Try.prog num Try.f16 c130 = true := by kernel_rfl
theorem chk131 : chkFn Try.prog num Try.f19 c131 = true := by kernel_rfl
theorem chk132 : chkFn Try.prog num Try.f22 c132 = true := by kernel_rfl
theorem chk133 : chkFn Try.prog num Try.f21 c133 = true := by kernel_rfl
theorem chk150 : chkFn Try.prog num Try.f47 c150 = true := by kernel_rfl
theorem chk151 : chkFn Try.prog num Try.f48 c151 = true := by kernel_rfl
theorem chk154 : chkFn Try.prog num Try.f56 c154 = true := by kernel_rfl
theorem chk175 : chkFn Try.prog num Try.f3 c175 = true := by kernel_rfl
theorem fnsOk : ∀ k c, codeOf k = some c → ∀ f, num k = some f → ∃ fn, Try.prog.funcs[f]? = some fn ∧ chkFn Try.prog num fn c = true := by
  intro k c hk f hf
  unfold codeOf at hk
  split at hk
  · obtain rfl := Option.some.inj hk; obtain rfl : 46 = f := Option.some.inj hf; exact ⟨_, Try.func46, chk2⟩
  · obtain rfl := Option.some.inj hk; obtain rfl : 49 = f := Option.some.inj hf; exact ⟨_, Try.func49, chk5⟩
  · obtain rfl := Option.some.inj hk; obtain rfl : 42 = f := Option.some.inj hf; exact ⟨_, Try.func42, chk7⟩
  · obtain rfl := Option.some.inj hk; obtain rfl : 50 = f := Option.some.inj hf; exact ⟨_, Try.func50, chk10⟩
  · obtain rfl := Option.some.inj hk; obtain rfl : 43 = f := Option.some.inj hf; exact ⟨_, Try.func43, chk12⟩
  · obtain rfl := Option.some.inj hk; obtain rfl : 37 = f := Option.some.inj hf; exact ⟨_, Try.func37, chk17⟩
  · obtain rfl := Option.some.inj hk; obtain rfl : 32 = f := Option.some.inj hf; exact ⟨_, Try.func32, chk19⟩
  · obtain rfl := Option.some.inj hk; obtain rfl : 15 = f := Option.some.inj hf; exact ⟨_, Try.func15, chk22⟩
  · obtain rfl := Option.some.inj hk; obtain rfl : 23 = f := Option.some.inj hf; exact ⟨_, Try.func23, chk24⟩
  · obtain rfl := Option.some.inj hk; obtain rfl : 28 = f := Option.some.inj hf; exact ⟨_, Try.func28, chk27⟩
  · obtain rfl := Option.some.inj hk; obtain rfl : 25 = f := Option.some.inj hf; exact ⟨_, Try.func25, chk29⟩
  · obtain rfl := Option.some.inj hk; obtain rfl : 20 = f := Option.some.inj hf; exact ⟨_, Try.func20, chk39⟩
  · obtain rfl := Option.some.inj hk; obtain rfl : 18 = f := Option.some.inj hf; exact ⟨_, Try.func18, chk43⟩
  · obtain rfl := Option.some.inj hk; obtain rfl : 12 = f := Option.some.inj hf; exact ⟨_, Try.func12, chk47⟩
  · obtain rfl := Option.some.inj hk; obtain rfl : 8 = f := Option.some.inj hf; exact ⟨_, Try.func8, chk48⟩
  · obtain rfl := Option.some.inj hk; obtain rfl : 6 = f := Option.some.inj hf; exact ⟨_, Try.func6, chk49⟩
  · obtain rfl := Option.some.inj hk; obtain rfl : 7 = f := Option.some.inj hf; exact ⟨_, Try.func7, chk50⟩
  · obtain rfl := Option.some.inj hk; obtain rfl : 11 = f := Option.some.inj hf; exact ⟨_, Try.func11, chk51⟩
  · obtain rfl := Option.some.inj hk; obtain rfl : 10 = f := Option.some.inj hf; exact ⟨_, Try.func10, chk52⟩
  · obtain rfl := Option.some.inj hk; obtain rfl : 9 = f := Option.some.inj hf; exact ⟨_, Try.func9, chk53⟩
  · obtain rfl := Option.some.inj hk; obtain rfl : 5 = f := Option.some.inj hf; exact ⟨_, Try.func5, chk54⟩
  · obtain rfl := Option.some.inj hk; obtain rfl : 4 = f := Option.some.inj hf; exact ⟨_, Try.func4, chk55⟩
  · obtain rfl := Option.some.inj hk; obtain rfl : 13 = f := Option.some.inj hf; exact ⟨_, Try.func13, chk58⟩
  · obtain rfl := Option.some.inj hk; obtain rfl : 31 = f := Option.some.inj hf; exact ⟨_, Try.func31, chk71⟩
  · obtain rfl := Option.some.inj hk; obtain rfl : 52 = f := Option.some.inj hf; exact ⟨_, Try.func52, chk81⟩
  · obtain rfl := Option.some.inj hk; obtain rfl : 54 = f := Option.some.inj hf; exact ⟨_, Try.func54, chk83⟩
  · obtain rfl := Option.some.inj hk; obtain rfl : 53 = f := Option.some.inj hf; exact ⟨_, Try.func53, chk84⟩
  · obtain rfl := Option.some.inj hk; obtain rfl : 55 = f := Option.some.inj hf; exact ⟨_, Try.func55, chk86⟩
  · obtain rfl := Option.some.inj hk; obtain rfl : 57 = f := Option.some.inj hf; exact ⟨_, Try.func57, chk95⟩
  · obtain rfl := Option.some.inj hk; obtain rfl : 17 = f := Option.some.inj hf; exact ⟨_, Try.func17, chk96⟩
  · obtain rfl := Option.some.inj hk; obtain rfl : 41 = f := Option.some.inj hf; exact ⟨_, Try.func41, chk99⟩
  · obtain rfl := Option.some.inj hk; obtain rfl : 39 = f := Option.some.inj hf; exact ⟨_, Try.func39, chk100⟩
  · obtain rfl := Option.some.inj hk; obtain rfl : 40 = f := Option.some.inj hf; exact ⟨_, Try.func40, chk101⟩
  · obtain rfl := Option.some.inj hk; obtain rfl : 24 = f := Option.some.inj hf; exact ⟨_, Try.func24, chk102⟩
  · obtain rfl := Option.some.inj hk; obtain rfl : 14 = f := Option.some.inj hf; exact ⟨_, Try.func14, chk105⟩
  · obtain rfl := Option.some.inj hk; obtain rfl : 27 = f := Option.some.inj hf; exact ⟨_, Try.func27, chk107⟩
  · obtain rfl := Option.some.inj hk; obtain rfl : 26 = f := Option.some.inj hf; exact ⟨_, Try.func26, chk108⟩
  · obtain rfl := Option.some.inj hk; obtain rfl : 45 = f := Option.some.inj hf; exact ⟨_, Try.func45, chk110⟩
  · obtain rfl := Option.some.inj hk; obtain rfl : 44 = f := Option.some.inj hf; exact ⟨_, Try.func44, chk111⟩
  · obtain rfl := Option.some.inj hk; obtain rfl : 51 = f := Option.some.inj hf; exact ⟨_, Try.func51, chk115⟩
  · obtain rfl := Option.some.inj hk; obtain rfl : 30 = f := Option.some.inj hf; exact ⟨_, Try.func30, chk123⟩
  · obtain rfl := Option.some.inj hk; obtain rfl : 29 = f := Option.some.inj hf; exact ⟨_, Try.func29, chk124⟩
  · obtain rfl := Option.some.inj hk; obtain rfl : 35 = f := Option.some.inj hf; exact ⟨_, Try.func35, chk125⟩
  · obtain rfl := Option.some.inj hk; obtain rfl : 34 = f := Option.some.inj hf; exact ⟨_, Try.func34, chk126⟩
  · obtain rfl := Option.some.inj hk; obtain rfl : 36 = f := Option.some.inj hf; exact ⟨_, Try.func36, chk127⟩
  · obtain rfl := Option.some.inj hk; obtain rfl : 33 = f := Option.some.inj hf; exact ⟨_, Try.func33, chk128⟩
  · obtain rfl := Option.some.inj hk; obtain rfl : 38 = f := Option.some.inj hf; exact ⟨_, Try.func38, chk129⟩
  · obtain rfl := Option.some.inj hk; obtain rfl : 16 = f := Option.some.inj hf; exact ⟨_, Try.func16, chk130⟩
  · obtain rfl := Option.some.inj hk; obtain rfl : 19 = f := Option.some.inj hf; exact ⟨_, Try.func19, chk131⟩
  · obtain rfl := Option.some.inj hk; obtain rfl : 22 = f := Option.some.inj hf; exact ⟨_, Try.func22, chk132⟩
  · obtain rfl := Option.some.inj hk; obtain rfl : 21 = f := Option.some.inj hf; exact ⟨_, Try.func21, chk133⟩
  · obtain rfl := Option.some.inj hk; obtain rfl : 47 = f := Option.some.inj hf; exact ⟨_, Try.func47, chk150⟩
  · obtain rfl := Option.some.inj hk; obtain rfl : 48 = f := Option.some.inj hf; exact ⟨_, Try.func48, chk151⟩
  · obtain rfl := Option.some.inj hk; obtain rfl : 56 = f := Option.some.inj hf; exact ⟨_, Try.func56, chk154⟩
  · obtain rfl := Option.some.inj hk; obtain rfl : 3 = f := Option.some.inj hf; exact ⟨_, Try.func3, chk175⟩
  · cases hk
theorem tied : Tied Try.prog num P := ⟨by kernel_rfl, fnsOk, fun k f args objs r outs _ _ h => (nomatch h)⟩
end Go.Proofs.Ytojihfiloldkgaa
