/- That the program's functions are their abstract code: each by the kernel. -/
import Derived.Test.YtfebkfeobdffjaaTop
import Derived.Test.YtfebkfeobdffjaaCode
import Derived.Test.YtfebkfeobdffjaaChecked
import Derived.KernelRfl
namespace Go.Proofs.Ytfebkfeobdffjaa
open Go
/-- Our numbers, and the program's. -/
def numL : List (Nat × Nat) := [(1, 13), (2, 12), (6, 30), (7, 24), (11, 31), (12, 25), (28, 11), (29, 10), (31, 14), (32, 8), (33, 7), (34, 9), (35, 6), (36, 5), (37, 4), (81, 36), (82, 39), (84, 37), (85, 29), (87, 49), (88, 46), (89, 17), (90, 48), (91, 15), (95, 47), (100, 38), (101, 22), (102, 23), (105, 28), (106, 40), (110, 27), (111, 26), (113, 33), (114, 32), (116, 16), (117, 18), (118, 19), (119, 20), (120, 21), (140, 44), (144, 45), (145, 42), (155, 35), (156, 34), (160, 50), (161, 43), (162, 41), (171, 3)]
def num (k : Nat) : Option FuncId := numL.lookup k
theorem chk1 : chkFn Try.prog num Try.f13 c1 = true := by kernel_rfl
theorem chk2 : chkFn Try.prog num Try.f12 c2 = true := by kernel_rfl
theorem chk6 : chkFn Try.prog num Try.f30 c6 = true := by kernel_rfl
theorem chk7 : chkFn Try.prog num Try.f24 c7 = true := by kernel_rfl
theorem chk11 : chkFn Try.prog num Try.f31 c11 = true := by kernel_rfl
theorem chk12 : chkFn Try.prog num Try.f25 c12 = true := by kernel_rfl
theorem chk28 : chkFn Try.prog num Try.f11 c28 = true := by kernel_rfl
theorem chk29 : chkFn Try.prog num Try.f10 c29 = true := by kernel_rfl
theorem chk31 : chkFn Try.prog num Try.f14 c31 = true := by kernel_rfl
theorem chk32 : chkFn Try.prog num Try.f8 c32 = true := by kernel_rfl
theorem chk33 : chkFn Try.prog num Try.f7 c33 = true := by kernel_rfl
theorem chk34 : chkFn Try.prog num Try.f9 c34 = true := by kernel_rfl
theorem chk35 : chkFn Try.prog num Try.f6 c35 = true := by kernel_rfl
theorem chk36 : chkFn Try.prog num Try.f5 c36 = true := by kernel_rfl
theorem chk37 : chkFn Try.prog num Try.f4 c37 = true := by kernel_rfl
theorem chk81 : chkFn Try.prog num Try.f36 c81 = true := by kernel_rfl
theorem chk82 : chkFn Try.prog num Try.f39 c82 = true := by kernel_rfl
theorem chk84 : chkFn Try.prog num Try.f37 c84 = true := by kernel_rfl
theorem chk85 : chkFn Try.prog num Try.f29 c85 = true := by kernel_rfl
theorem chk87 : chkFn Try.prog num Try.f49 c87 = true := by kernel_rfl
theorem chk88 : chkFn Try.prog num Try.f46 c88 = true := by kernel_rfl
theorem chk89 : chkFn Try.prog num Try.f17 c89 = true := by kernel_rfl
theorem chk90 : chkFn Try.prog num Try.f48 c90 = true := by kernel_rfl
theorem chk91 : chkFn Try.prog num Try.f15 c91 = true := by kernel_rfl
theorem chk95 : chkFn Try.prog num Try.f47 c95 = true := by kernel_rfl
theorem chk100 : chkFn Try.prog num Try.f38 c100 = true := by kernel_rfl
theorem chk101 : chkFn Try.prog num Try.f22 c101 = true := by kernel_rfl
theorem chk102 : chkFn Try.prog num Try.f23 c102 = true := by kernel_rfl
theorem chk105 : chkFn Try.prog num Try.f28 c105 = true := by kernel_rfl
theorem chk106 : chkFn Try.prog num Try.f40 c106 = true := by kernel_rfl
theorem chk110 : chkFn Try.prog num Try.f27 c110 = true := by kernel_rfl
theorem chk111 : chkFn Try.prog num Try.f26 c111 = true := by kernel_rfl
theorem chk113 : chkFn Try.prog num Try.f33 c113 = true := by kernel_rfl
theorem chk114 : chkFn Try.prog num Try.f32 c114 = true := by kernel_rfl
theorem chk116 : chkFn Try.prog num Try.f16 c116 = true := by kernel_rfl
theorem chk117 : chkFn Try.prog num Try.f18 c117 = true := by kernel_rfl
theorem chk118 : chkFn Try.prog num Try.f19 c118 = true := by kernel_rfl
theorem chk119 : chkFn Try.prog num Try.f20 c119 = true := by kernel_rfl
theorem chk120 : chkFn Try.prog num Try.f21 c120 = true := by kernel_rfl
theorem chk140 : chkFn Try.prog num Try.f44 c140 = true := by kernel_rfl
theorem chk144 : chkFn Try.prog num Try.f45 c144 = true := by kernel_rfl
theorem chk145 : chkFn Try.prog num Try.f42 c145 = true := by kernel_rfl
theorem chk155 : chkFn Try.prog num Try.f35 c155 = true := by kernel_rfl
theorem chk156 : chkFn Try.prog num Try.f34 c156 = true := by kernel_rfl
theorem chk160 : chkFn Try.prog num Try.f50 c160 = true := by kernel_rfl
theorem chk161 : chkFn Try.prog num Try.f43 c161 = true := by kernel_rfl
theorem chk162 : chkFn Try.prog num Try.f41 c162 = true := by kernel_rfl
theorem chk171 : chkFn Try.prog num Try.f3 c171 = true := by kernel_rfl
theorem fnsOk : ∀ k c, codeOf k = some c → ∀ f, num k = some f → ∃ fn, Try.prog.funcs[f]? = some fn ∧ chkFn Try.prog num fn c = true := by
  intro k c hk f hf
  unfold codeOf at hk
  split at hk
  · obtain rfl := Option.some.inj hk; obtain rfl : 13 = f := Option.some.inj hf; exact ⟨_, Try.func13, chk1⟩
  · obtain rfl := Option.some.inj hk; obtain rfl : 12 = f := Option.some.inj hf; exact ⟨_, Try.func12, chk2⟩
  · obtain rfl := Option.some.inj hk; obtain rfl : 30 = f := Option.some.inj hf; exact ⟨_, Try.func30, chk6⟩
  · obtain rfl := Option.some.inj hk; obtain rfl : 24 = f := Option.some.inj hf; exact ⟨_, Try.func24, chk7⟩
  · obtain rfl := Option.some.inj hk; obtain rfl : 31 = f := Option.some.inj hf; exact ⟨_, Try.func31, chk11⟩
  · obtain rfl := Option.some.inj hk; obtain rfl : 25 = f := Option.some.inj hf; exact ⟨_, Try.func25, chk12⟩
  · obtain rfl := Option.some.inj hk; obtain rfl : 11 = f := Option.some.inj hf; exact ⟨_, Try.func11, chk28⟩
  · obtain rfl := Option.some.inj hk; obtain rfl : 10 = f := Option.some.inj hf; exact ⟨_, Try.func10, chk29⟩
  · obtain rfl := Option.some.inj hk; obtain rfl : 14 = f := Option.some.inj hf; exact ⟨_, Try.func14, chk31⟩
  · obtain rfl := Option.some.inj hk; obtain rfl : 8 = f := Option.some.inj hf; exact ⟨_, Try.func8, chk32⟩
  · obtain rfl := Option.some.inj hk; obtain rfl : 7 = f := Option.some.inj hf; exact ⟨_, Try.func7, chk33⟩
  · obtain rfl := Option.some.inj hk; obtain rfl : 9 = f := Option.some.inj hf; exact ⟨_, Try.func9, chk34⟩
  · obtain rfl := Option.some.inj hk; obtain rfl : 6 = f := Option.some.inj hf; exact ⟨_, Try.func6, chk35⟩
  · obtain rfl := Option.some.inj hk; obtain rfl : 5 = f := Option.some.inj hf; exact ⟨_, Try.func5, chk36⟩
  · obtain rfl := Option.some.inj hk; obtain rfl : 4 = f := Option.some.inj hf; exact ⟨_, Try.func4, chk37⟩
  · obtain rfl := Option.some.inj hk; obtain rfl : 36 = f := Option.some.inj hf; exact ⟨_, Try.func36, chk81⟩
  · obtain rfl := Option.some.inj hk; obtain rfl : 39 = f := Option.some.inj hf; exact ⟨_, Try.func39, chk82⟩
  · obtain rfl := Option.some.inj hk; obtain rfl : 37 = f := Option.some.inj hf; exact ⟨_, Try.func37, chk84⟩
  · obtain rfl := Option.some.inj hk; obtain rfl : 29 = f := Option.some.inj hf; exact ⟨_, Try.func29, chk85⟩
  · obtain rfl := Option.some.inj hk; obtain rfl : 49 = f := Option.some.inj hf; exact ⟨_, Try.func49, chk87⟩
  · obtain rfl := Option.some.inj hk; obtain rfl : 46 = f := Option.some.inj hf; exact ⟨_, Try.func46, chk88⟩
  · obtain rfl := Option.some.inj hk; obtain rfl : 17 = f := Option.some.inj hf; exact ⟨_, Try.func17, chk89⟩
  · obtain rfl := Option.some.inj hk; obtain rfl : 48 = f := Option.some.inj hf; exact ⟨_, Try.func48, chk90⟩
  · obtain rfl := Option.some.inj hk; obtain rfl : 15 = f := Option.some.inj hf; exact ⟨_, Try.func15, chk91⟩
  · obtain rfl := Option.some.inj hk; obtain rfl : 47 = f := Option.some.inj hf; exact ⟨_, Try.func47, chk95⟩
  · obtain rfl := Option.some.inj hk; obtain rfl : 38 = f := Option.some.inj hf; exact ⟨_, Try.func38, chk100⟩
  · obtain rfl := Option.some.inj hk; obtain rfl : 22 = f := Option.some.inj hf; exact ⟨_, Try.func22, chk101⟩
  · obtain rfl := Option.some.inj hk; obtain rfl : 23 = f := Option.some.inj hf; exact ⟨_, Try.func23, chk102⟩
  · obtain rfl := Option.some.inj hk; obtain rfl : 28 = f := Option.some.inj hf; exact ⟨_, Try.func28, chk105⟩
  · obtain rfl := Option.some.inj hk; obtain rfl : 40 = f := Option.some.inj hf; exact ⟨_, Try.func40, chk106⟩
  · obtain rfl := Option.some.inj hk; obtain rfl : 27 = f := Option.some.inj hf; exact ⟨_, Try.func27, chk110⟩
  · obtain rfl := Option.some.inj hk; obtain rfl : 26 = f := Option.some.inj hf; exact ⟨_, Try.func26, chk111⟩
  · obtain rfl := Option.some.inj hk; obtain rfl : 33 = f := Option.some.inj hf; exact ⟨_, Try.func33, chk113⟩
  · obtain rfl := Option.some.inj hk; obtain rfl : 32 = f := Option.some.inj hf; exact ⟨_, Try.func32, chk114⟩
  · obtain rfl := Option.some.inj hk; obtain rfl : 16 = f := Option.some.inj hf; exact ⟨_, Try.func16, chk116⟩
  · obtain rfl := Option.some.inj hk; obtain rfl : 18 = f := Option.some.inj hf; exact ⟨_, Try.func18, chk117⟩
  · obtain rfl := Option.some.inj hk; obtain rfl : 19 = f := Option.some.inj hf; exact ⟨_, Try.func19, chk118⟩
  · obtain rfl := Option.some.inj hk; obtain rfl : 20 = f := Option.some.inj hf; exact ⟨_, Try.func20, chk119⟩
  · obtain rfl := Option.some.inj hk; obtain rfl : 21 = f := Option.some.inj hf; exact ⟨_, Try.func21, chk120⟩
  · obtain rfl := Option.some.inj hk; obtain rfl : 44 = f := Option.some.inj hf; exact ⟨_, Try.func44, chk140⟩
  · obtain rfl := Option.some.inj hk; obtain rfl : 45 = f := Option.some.inj hf; exact ⟨_, Try.func45, chk144⟩
  · obtain rfl := Option.some.inj hk; obtain rfl : 42 = f := Option.some.inj hf; exact ⟨_, Try.func42, chk145⟩
  · obtain rfl := Option.some.inj hk; obtain rfl : 35 = f := Option.some.inj hf; exact ⟨_, Try.func35, chk155⟩
  · obtain rfl := Option.some.inj hk; obtain rfl : 34 = f := Option.some.inj hf; exact ⟨_, Try.func34, chk156⟩
  · obtain rfl := Option.some.inj hk; obtain rfl : 50 = f := Option.some.inj hf; exact ⟨_, Try.func50, chk160⟩
  · obtain rfl := Option.some.inj hk; obtain rfl : 43 = f := Option.some.inj hf; exact ⟨_, Try.func43, chk161⟩
  · obtain rfl := Option.some.inj hk; obtain rfl : 41 = f := Option.some.inj hf; exact ⟨_, Try.func41, chk162⟩
  · obtain rfl := Option.some.inj hk; obtain rfl : 3 = f := Option.some.inj hf; exact ⟨_, Try.func3, chk171⟩
  · cases hk
theorem tied : Tied Try.prog num P := ⟨by kernel_rfl, fnsOk, fun k f args objs r outs _ _ h => (nomatch h)⟩
end Go.Proofs.Ytfebkfeobdffjaa
