/- That the program's functions are their abstract code: each by the kernel. -/
import Derived.Test.YtngfkaflnpnkmaaTop
import Derived.Test.YtngfkaflnpnkmaaCode
import Derived.Test.YtngfkaflnpnkmaaChecked
import Derived.KernelRfl
namespace Go.Proofs.Ytngfkaflnpnkmaa
open Go
/-- Our numbers, and the program's. -/
def numL : List (Nat × Nat) := [(0, 41), (1, 21), (2, 15), (3, 32), (4, 17), (5, 22), (6, 45), (7, 36), (8, 11), (9, 18), (10, 23), (11, 46), (12, 37), (13, 12), (17, 29), (19, 26), (26, 6), (27, 8), (28, 20), (29, 14), (30, 4), (32, 5), (36, 7), (45, 10), (46, 9), (71, 25), (79, 31), (80, 40), (81, 53), (82, 56), (83, 49), (84, 54), (85, 44), (86, 50), (95, 58), (96, 52), (100, 55), (101, 34), (102, 35), (105, 43), (106, 57), (109, 13), (110, 39), (111, 38), (112, 19), (113, 48), (114, 47), (115, 24), (120, 16), (127, 28), (128, 27), (129, 30), (152, 33), (153, 42), (154, 51), (174, 3)]
def num (k : Nat) : Option FuncId := numL.lookup k
theorem chk0 : chkFn Try.prog num Try.f41 c0 = true := by kernel_rfl
theorem chk1 : chkFn Try.prog num Try.f21 c1 = true := by kernel_rfl
theorem chk2 : chkFn Try.prog num Try.f15 c2 = true := by kernel_rfl
theorem chk3 : chkFn Try.prog num Try.f32 c3 = true := by kernel_rfl
theorem chk4 : chkFn Try.prog num Try.f17 c4 = true := by kernel_rfl
theorem chk5 : chkFn Try.prog num Try.f22 c5 = true := by kernel_rfl
theorem chk6 : chkFn Try.prog num Try.f45 c6 = true := by kernel_rfl
theorem chk7 : chkFn Try.prog num Try.f36 c7 = true := by kernel_rfl
theorem chk8 : chkFn Try.prog num Try.f11 c8 = true := by kernel_rfl
theorem chk9 : chkFn Try.prog num Try.f18 c9 = true := by kernel_rfl
theorem chk10 : chkFn Try.prog num Try.f23 c10 = true := by kernel_rfl
theorem chk11 : chkFn Try.prog num Try.f46 c11 = true := by kernel_rfl
theorem chk12 : chkFn Try.prog num Try.f37 c12 = true := by kernel_rfl
theorem chk13 : chkFn Try.prog num Try.f12 c13 = true := by kernel_rfl
theorem chk17 : chkFn Try.prog num Try.f29 c17 = true := by kernel_rfl
theorem chk19 : chkFn Try.prog num Try.f26 c19 = true := by kernel_rfl
theorem chk26 : chkFn Try.prog num Try.f6 c26 = true := by kernel_rfl
theorem chk27 : chkFn Try.prog num Try.f8 c27 = true := by kernel_rfl
theorem chk28 : chkFn Try.prog num Try.f20 c28 = true := by kernel_rfl
theorem chk29 : chkFn Try.prog num Try.f14 c29 = true := by kernel_rfl
theorem chk30 : chkFn Try.prog num Try.f4 c30 = true := by kernel_rfl
theorem chk32 : chkFn Try.prog num Try.f5 c32 = true := by kernel_rfl
theorem chk36 : chkFn Try.prog num Try.f7 c36 = true := by kernel_rfl
theorem chk45 : chkFn Try.prog num Try.f10 c45 = true := by kernel_rfl
theorem chk46 : chkFn Try.prog num Try.f9 c46 = true := by kernel_rfl
theorem chk71 : chkFn Try.prog num Try.f25 c71 = true := by kernel_rfl
theorem chk79 : chkFn Try.prog num Try.f31 c79 = true := by kernel_rfl
theorem chk80 : chkFn Try.prog num Try.f40 c80 = true := by kernel_rfl
theorem chk81 : chkFn Try.prog num Try.f53 c81 = true := by kernel_rfl
theorem chk82 : chkFn Try.prog num Try.f56 c82 = true := by kernel_rfl
theorem chk83 : chkFn Try.prog num Try.f49 c83 = true := by kernel_rfl
theorem chk84 : chkFn Try.prog num Try.f54 c84 = true := by kernel_rfl
theorem chk85 : chkFn Try.prog num Try.f44 c85 = true := by kernel_rfl
theorem chk86 : chkFn Try.prog num Try.f50 c86 = true := by kernel_rfl
theorem chk95 : chkFn Try.prog num Try.f58 c95 = true := by kernel_rfl
theorem chk96 : chkFn Try.prog num Try.f52 c96 = true := by kernel_rfl
theorem chk100 : chkFn Try.prog num Try.f55 c100 = true := by kernel_rfl
theorem chk101 : chkFn Try.prog num Try.f34 c101 = true := by kernel_rfl
theorem chk102 : chkFn Try.prog num Try.f35 c102 = true := by kernel_rfl
theorem chk105 : chkFn Try.prog num Try.f43 c105 = true := by kernel_rfl
theorem chk106 : chkFn Try.prog num Try.f57 c106 = true := by kernel_rfl
theorem chk109 : chkFn Try.prog num Try.f13 c109 = true := by kernel_rfl
theorem chk110 : chkFn Try.prog num Try.f39 c110 = true := by kernel_rfl
theorem chk111 : chkFn Try.prog num Try.f38 c111 = true := by kernel_rfl
theorem chk112 : chkFn Try.prog num Try.f19 c112 = true := by kernel_rfl
theorem chk113 : chkFn Try.prog num Try.f48 c113 = true := by kernel_rfl
theorem chk114 : chkFn Try.prog num Try.f47 c114 = true := by kernel_rfl
theorem chk115 : chkFn Try.prog num Try.f24 c115 = true := by kernel_rfl
theorem chk120 : chkFn Try.prog num Try.f16 c120 = true := by kernel_rfl
theorem chk127 : chkFn Try.prog num Try.f28 c127 = true := by kernel_rfl
theorem chk128 : chkFn Try.prog num Try.f27 c128 = true := by kernel_rfl
theorem chk129 : chkFn Try.prog num Try.f30 c129 = true := by kernel_rfl
theorem chk152 : chkFn Try.prog num Try.f33 c152 = true := by kernel_rfl
theorem chk153 : chkFn Try.prog num Try.f42 c153 = true := by kernel_rfl
theorem chk154 : chkFn Try.prog num Try.f51 c154 = true := by kernel_rfl
theorem chk174 : chkFn Try.prog num Try.f3 c174 = true := by kernel_rfl
theorem fnsOk : ∀ k c, codeOf k = some c → ∀ f, num k = some f → ∃ fn, Try.prog.funcs[f]? = some fn ∧ chkFn Try.prog num fn c = true := by
  intro k c hk f hf
  unfold codeOf at hk
  split at hk
  · obtain rfl := Option.some.inj hk; obtain rfl : 41 = f := Option.some.inj hf; exact ⟨_, Try.func41, chk0⟩
  · obtain rfl := Option.some.inj hk; obtain rfl : 21 = f := Option.some.inj hf; exact ⟨_, Try.func21, chk1⟩
  · obtain rfl := Option.some.inj hk; obtain rfl : 15 = f := Option.some.inj hf; exact ⟨_, Try.func15, chk2⟩
  · obtain rfl := Option.some.inj hk; obtain rfl : 32 = f := Option.some.inj hf; exact ⟨_, Try.func32, chk3⟩
  · obtain rfl := Option.some.inj hk; obtain rfl : 17 = f := Option.some.inj hf; exact ⟨_, Try.func17, chk4⟩
  · obtain rfl := Option.some.inj hk; obtain rfl : 22 = f := Option.some.inj hf; exact ⟨_, Try.func22, chk5⟩
  · obtain rfl := Option.some.inj hk; obtain rfl : 45 = f := Option.some.inj hf; exact ⟨_, Try.func45, chk6⟩
  · obtain rfl := Option.some.inj hk; obtain rfl : 36 = f := Option.some.inj hf; exact ⟨_, Try.func36, chk7⟩
  · obtain rfl := Option.some.inj hk; obtain rfl : 11 = f := Option.some.inj hf; exact ⟨_, Try.func11, chk8⟩
  · obtain rfl := Option.some.inj hk; obtain rfl : 18 = f := Option.some.inj hf; exact ⟨_, Try.func18, chk9⟩
  · obtain rfl := Option.some.inj hk; obtain rfl : 23 = f := Option.some.inj hf; exact ⟨_, Try.func23, chk10⟩
  · obtain rfl := Option.some.inj hk; obtain rfl : 46 = f := Option.some.inj hf; exact ⟨_, Try.func46, chk11⟩
  · obtain rfl := Option.some.inj hk; obtain rfl : 37 = f := Option.some.inj hf; exact ⟨_, Try.func37, chk12⟩
  · obtain rfl := Option.some.inj hk; obtain rfl : 12 = f := Option.some.inj hf; exact ⟨_, Try.func12, chk13⟩
  · obtain rfl := Option.some.inj hk; obtain rfl : 29 = f := Option.some.inj hf; exact ⟨_, Try.func29, chk17⟩
  · obtain rfl := Option.some.inj hk; obtain rfl : 26 = f := Option.some.inj hf; exact ⟨_, Try.func26, chk19⟩
  · obtain rfl := Option.some.inj hk; obtain rfl : 6 = f := Option.some.inj hf; exact ⟨_, Try.func6, chk26⟩
  · obtain rfl := Option.some.inj hk; obtain rfl : 8 = f := Option.some.inj hf; exact ⟨_, Try.func8, chk27⟩
  · obtain rfl := Option.some.inj hk; obtain rfl : 20 = f := Option.some.inj hf; exact ⟨_, Try.func20, chk28⟩
  · obtain rfl := Option.some.inj hk; obtain rfl : 14 = f := Option.some.inj hf; exact ⟨_, Try.func14, chk29⟩
  · obtain rfl := Option.some.inj hk; obtain rfl : 4 = f := Option.some.inj hf; exact ⟨_, Try.func4, chk30⟩
  · obtain rfl := Option.some.inj hk; obtain rfl : 5 = f := Option.some.inj hf; exact ⟨_, Try.func5, chk32⟩
  · obtain rfl := Option.some.inj hk; obtain rfl : 7 = f := Option.some.inj hf; exact ⟨_, Try.func7, chk36⟩
  · obtain rfl := Option.some.inj hk; obtain rfl : 10 = f := Option.some.inj hf; exact ⟨_, Try.func10, chk45⟩
  · obtain rfl := Option.some.inj hk; obtain rfl : 9 = f := Option.some.inj hf; exact ⟨_, Try.func9, chk46⟩
  · obtain rfl := Option.some.inj hk; obtain rfl : 25 = f := Option.some.inj hf; exact ⟨_, Try.func25, chk71⟩
  · obtain rfl := Option.some.inj hk; obtain rfl : 31 = f := Option.some.inj hf; exact ⟨_, Try.func31, chk79⟩
  · obtain rfl := Option.some.inj hk; obtain rfl : 40 = f := Option.some.inj hf; exact ⟨_, Try.func40, chk80⟩
  · obtain rfl := Option.some.inj hk; obtain rfl : 53 = f := Option.some.inj hf; exact ⟨_, Try.func53, chk81⟩
  · obtain rfl := Option.some.inj hk; obtain rfl : 56 = f := Option.some.inj hf; exact ⟨_, Try.func56, chk82⟩
  · obtain rfl := Option.some.inj hk; obtain rfl : 49 = f := Option.some.inj hf; exact ⟨_, Try.func49, chk83⟩
  · obtain rfl := Option.some.inj hk; obtain rfl : 54 = f := Option.some.inj hf; exact ⟨_, Try.func54, chk84⟩
  · obtain rfl := Option.some.inj hk; obtain rfl : 44 = f := Option.some.inj hf; exact ⟨_, Try.func44, chk85⟩
  · obtain rfl := Option.some.inj hk; obtain rfl : 50 = f := Option.some.inj hf; exact ⟨_, Try.func50, chk86⟩
  · obtain rfl := Option.some.inj hk; obtain rfl : 58 = f := Option.some.inj hf; exact ⟨_, Try.func58, chk95⟩
  · obtain rfl := Option.some.inj hk; obtain rfl : 52 = f := Option.some.inj hf; exact ⟨_, Try.func52, chk96⟩
  · obtain rfl := Option.some.inj hk; obtain rfl : 55 = f := Option.some.inj hf; exact ⟨_, Try.func55, chk100⟩
  · obtain rfl := Option.some.inj hk; obtain rfl : 34 = f := Option.some.inj hf; exact ⟨_, Try.func34, chk101⟩
  · obtain rfl := Option.some.inj hk; obtain rfl : 35 = f := Option.some.inj hf; exact ⟨_, Try.func35, chk102⟩
  · obtain rfl := Option.some.inj hk; obtain rfl : 43 = f := Option.some.inj hf; exact ⟨_, Try.func43, chk105⟩
  · obtain rfl := Option.some.inj hk; obtain rfl : 57 = f := Option.some.inj hf; exact ⟨_, Try.func57, chk106⟩
  · obtain rfl := Option.some.inj hk; obtain rfl : 13 = f := Option.some.inj hf; exact ⟨_, Try.func13, chk109⟩
  · obtain rfl := Option.some.inj hk; obtain rfl : 39 = f := Option.some.inj hf; exact ⟨_, Try.func39, chk110⟩
  · obtain rfl := Option.some.inj hk; obtain rfl : 38 = f := Option.some.inj hf; exact ⟨_, Try.func38, chk111⟩
  · obtain rfl := Option.some.inj hk; obtain rfl : 19 = f := Option.some.inj hf; exact ⟨_, Try.func19, chk112⟩
  · obtain rfl := Option.some.inj hk; obtain rfl : 48 = f := Option.some.inj hf; exact ⟨_, Try.func48, chk113⟩
  · obtain rfl := Option.some.inj hk; obtain rfl : 47 = f := Option.some.inj hf; exact ⟨_, Try.func47, chk114⟩
  · obtain rfl := Option.some.inj hk; obtain rfl : 24 = f := Option.some.inj hf; exact ⟨_, Try.func24, chk115⟩
  · obtain rfl := Option.some.inj hk; obtain rfl : 16 = f := Option.some.inj hf; exact ⟨_, Try.func16, chk120⟩
  · obtain rfl := Option.some.inj hk; obtain rfl : 28 = f := Option.some.inj hf; exact ⟨_, Try.func28, chk127⟩
  · obtain rfl := Option.some.inj hk; obtain rfl : 27 = f := Option.some.inj hf; exact ⟨_, Try.func27, chk128⟩
  · obtain rfl := Option.some.inj hk; obtain rfl : 30 = f := Option.some.inj hf; exact ⟨_, Try.func30, chk129⟩
  · obtain rfl := Option.some.inj hk; obtain rfl : 33 = f := Option.some.inj hf; exact ⟨_, Try.func33, chk152⟩
  · obtain rfl := Option.some.inj hk; obtain rfl : 42 = f := Option.some.inj hf; exact ⟨_, Try.func42, chk153⟩
  · obtain rfl := Option.some.inj hk; obtain rfl : 51 = f := Option.some.inj hf; exact ⟨_, Try.func51, chk154⟩
  · obtain rfl := Option.some.inj hk; obtain rfl : 3 = f := Option.some.inj hf; exact ⟨_, Try.func3, chk174⟩
  · cases hk
theorem tied : Tied Try.prog num P := ⟨by kernel_rfl, fnsOk, fun k f args objs r outs _ _ h => (nomatch h)⟩
end Go.Proofs.Ytngfkaflnpnkmaa
