/- That the program's functions are their abstract code: each by the kernel. -/
import Derived.Test.YtkidibombhdbeaaTop
import Derived.Test.YtkidibombhdbeaaCode
import Derived.Test.YtkidibombhdbeaaChecked
import Derived.KernelRfl
namespace Go.Proofs.Ytkidibombhdbeaa
open Go
/-- Our numbers, and the program's. -/
def numL : List (Nat × Nat) := [(0, 71), (1, 18), (2, 13), (3, 66), (4, 50), (5, 62), (6, 56), (7, 44), (8, 38), (9, 51), (10, 63), (11, 57), (12, 45), (13, 39), (21, 14), (22, 19), (23, 31), (24, 25), (25, 9), (26, 30), (27, 35), (28, 32), (29, 27), (30, 24), (48, 8), (49, 16), (53, 21), (55, 11), (56, 6), (57, 17), (58, 12), (59, 4), (66, 7), (67, 5), (79, 65), (80, 70), (81, 68), (82, 73), (83, 74), (84, 69), (85, 53), (86, 75), (95, 77), (97, 23), (98, 22), (99, 43), (100, 41), (101, 42), (102, 26), (103, 29), (104, 28), (105, 55), (106, 54), (107, 34), (108, 33), (109, 40), (110, 47), (111, 46), (112, 52), (113, 59), (114, 58), (115, 64), (130, 20), (134, 10), (135, 15), (146, 36), (147, 37), (148, 48), (149, 49), (150, 60), (151, 61), (152, 67), (153, 72), (154, 76), (178, 3)]
def num (k : Nat) : Option FuncId := numL.lookup k
theorem chk0 : chkFn Try.prog num Try.f71 c0 = true := by kernel_rfl
theorem chk1 : chkFn Try.prog num Try.f18 c1 = true := by kernel_rfl
theorem chk2 : chkFn Try.prog num Try.f13 c2 = true := by kernel_rfl
theorem chk3 : chkFn Try.prog num Try.f66 c3 = true := by kernel_rfl
theorem chk4 : chkFn Try.prog num Try.f50 c4 = true := by kernel_rfl
theorem chk5 : chkFn Try.prog num Try.f62 c5 = true := by kernel_rfl
theorem chk6 : chkFn Try.prog num Try.f56 c6 = true := by kernel_rfl
theorem chk7 : chkFn Try.prog num Try.f44 c7 = true := by kernel_rfl
theorem chk8 : chkFn Try.prog num Try.f38 c8 = true := by kernel_rfl
theorem chk9 : chkFn Try.prog num Try.f51 c9 = true := by kernel_rfl
theorem chk10 : chkFn Try.prog num Try.f63 c10 = true := by kernel_rfl
theorem chk11 : chkFn Try.prog num Try.f57 c11 = true := by kernel_rfl
theorem chk12 : chkFn Try.prog num Try.f45 c12 = true := by kernel_rfl
theorem chk13 : chkFn Try.prog num Try.f39 c13 = true := by kernel_rfl
theorem chk21 : chkFn Try.prog num Try.f14 c21 = true := by kernel_rfl
theorem chk22 : chkFn Try.prog num Try.f19 c22 = true := by kernel_rfl
theorem chk23 : chkFn Try.prog num Try.f31 c23 = true := by kernel_rfl
theorem chk24 : chkFn Try.prog num Try.f25 c24 = true := by kernel_rfl
theorem chk25 : chkFn Try.prog num Try.f9 c25 = true := by kernel_rfl
theorem chk26 : chkFn Try.prog num Try.f30 c26 = true := by kernel_rfl
theorem chk27 : chkFn Try.prog num Try.f35 c27 = true := by kernel_rfl
theorem chk28 : chkFn Try.prog num Try.f32 c28 = true := by kernel_rfl
theorem chk29 : chkFn Try.prog num Try.f27 c29 = true := by kernel_rfl
theorem chk30 : chkFn Try.prog num Try.f24 c30 = true := by kernel_rfl
theorem chk48 : chkFn Try.prog num Try.f8 c48 = true := by kernel_rfl
theorem chk49 : chkFn Try.prog num Try.f16 c49 = true := by kernel_rfl
theorem chk53 : chkFn Try.prog num Try.f21 c53 = true := by kernel_rfl
theorem chk55 : chkFn Try.prog num Try.f11 c55 = true := by kernel_rfl
theorem chk56 : chkFn Try.prog num Try.f6 c56 = true := by kernel_rfl
theorem chk57 : chkFn Try.prog num Try.f17 c57 = true := by kernel_rfl
theorem chk58 : chkFn Try.prog num Try.f12 c58 = true := by kernel_rfl
theorem chk59 : chkFn Try.prog num Try.f4 c59 = true := by kernel_rfl
theorem chk66 : chkFn Try.prog num Try.f7 c66 = true := by kernel_rfl
theorem chk67 : chkFn Try.prog num Try.f5 c67 = true := by kernel_rfl
theorem chk79 : chkFn Try.prog num Try.f65 c79 = true := by kernel_rfl
theorem chk80 : chkFn Try.prog num Try.f70 c80 = true := by kernel_rfl
theorem chk81 : chkFn Try.prog num Try.f68 c81 = true := by kernel_rfl
theorem chk82 : chkFn Try.prog num Try.f73 c82 = true := by kernel_rfl
theorem chk83 : chkFn Try.prog num Try.f74 c83 = true := by kernel_rfl
theorem chk84 : chkFn Try.prog num Try.f69 c84 = true := by kernel_rfl
theorem chk85 : chkFn Try.prog num Try.f53 c85 = true := by kernel_rfl
theorem chk86 : chkFn Try.prog num Try.f75 c86 = true := by kernel_rfl
theorem chk95 : chkFn Try.prog num Try.f77 c95 = true := by kernel_rfl
theorem chk97 : chkFn Try.prog num Try.f23 c97 = true := by kernel_rfl
theorem chk98 : chkFn Try.prog num Try.f22 c98 = true := by kernel_rfl
theorem chk99 : chkFn Try.prog num Try.f43 c99 = true := by kernel_rfl
theorem chk100 : chkFn Try.prog num Try.f41 c100 = true := by kernel_rfl
theorem chk101 : chkFn Try.prog num Try.f42 c101 = true := by kernel_rfl
theorem chk102 : chkFn Try.prog num Try.f26 c102 = true := by kernel_rfl
theorem chk103 : chkFn Try.prog num Try.f29 c103 = true := by kernel_rfl
theorem chk104 : chkFn Try.prog num Try.f28 c104 = true := by kernel_rfl
theorem chk105 : chkFn Try.prog num Try.f55 c105 = true := by kernel_rfl
theorem chk106 : chkFn Try.prog num Try.f54 c106 = true := by kernel_rfl
theorem chk107 : chkFn Try.prog num Try.f34 c107 = true := by kernel_rfl
theorem chk108 : chkFn Try.prog num Try.f33 c108 = true := by kernel_rfl
theorem chk109 : chkFn Try.prog num Try.f40 c109 = true := by kernel_rfl
theorem chk110 : chkFn Try.prog num Try.f47 c110 = true := by kernel_rfl
theorem chk111 : chkFn Try.prog num Try.f46 c111 = true := by kernel_rfl
theorem chk112 : chkFn Try.prog num Try.f52 c112 = true := by kernel_rfl
theorem chk113 : chkFn Try.prog num Try.f59 c113 = true := by kernel_rfl
theorem chk114 : chkFn Try.prog num Try.f58 c114 = true := by kernel_rfl
theorem chk115 : chkFn Try.prog num Try.f64 c115 = true := by kernel_rfl
theorem chk130 : chkFn Try.prog num Try.f20 c130 = true := by kernel_rfl
theorem chk134 : chkFn Try.prog num Try.f10 c134 = true := by kernel_rfl
theorem chk135 : chkFn Try.prog num Try.f15 c135 = true := by kernel_rfl
theorem chk146 : chkFn Try.prog num Try.f36 c146 = true := by kernel_rfl
theorem chk147 : chkFn Try.prog num Try.f37 c147 = true := by kernel_rfl
theorem chk148 : chkFn Try.prog num Try.f48 c148 = true := by kernel_rfl
theorem chk149 : chkFn Try.prog num Try.f49 c149 = true := by kernel_rfl
theorem chk150 : chkFn Try.prog num Try.f60 c150 = true := by kernel_rfl
theorem chk151 : chkFn Try.prog num Try.f61 c151 = true := by kernel_rfl
theorem chk152 : chkFn Try.prog num Try.f67 c152 = true := by kernel_rfl
theorem chk153 : chkFn Try.prog num Try.f72 c153 = true := by kernel_rfl
theorem chk154 : chkFn Try.prog num Try.f76 c154 = true := by kernel_rfl
theorem chk178 : chkFn Try.prog num Try.f3 c178 = true := by kernel_rfl
theorem fnsOk : ∀ k c, codeOf k = some c → ∀ f, num k = some f → ∃ fn, Try.prog.funcs[f]? = some fn ∧ chkFn Try.prog num fn c = true := by
  intro k c hk f hf
  unfold codeOf at hk
  split at hk
  · obtain rfl := Option.some.inj hk; obtain rfl : 71 = f := Option.some.inj hf; exact ⟨_, Try.func71, chk0⟩
  · obtain rfl := Option.some.inj hk; obtain rfl : 18 = f := Option.some.inj hf; exact ⟨_, Try.func18, chk1⟩
  · obtain rfl := Option.some.inj hk; obtain rfl : 13 = f := Option.some.inj hf; exact ⟨_, Try.func13, chk2⟩
  · obtain rfl := Option.some.inj hk; obtain rfl : 66 = f := Option.some.inj hf; exact ⟨_, Try.func66, chk3⟩
  · obtain rfl := Option.some.inj hk; obtain rfl : 50 = f := Option.some.inj hf; exact ⟨_, Try.func50, chk4⟩
  · obtain rfl := Option.some.inj hk; obtain rfl : 62 = f := Option.some.inj hf; exact ⟨_, Try.func62, chk5⟩
  · obtain rfl := Option.some.inj hk; obtain rfl : 56 = f := Option.some.inj hf; exact ⟨_, Try.func56, chk6⟩
  · obtain rfl := Option.some.inj hk; obtain rfl : 44 = f := Option.some.inj hf; exact ⟨_, Try.func44, chk7⟩
  · obtain rfl := Option.some.inj hk; obtain rfl : 38 = f := Option.some.inj hf; exact ⟨_, Try.func38, chk8⟩
  · obtain rfl := Option.some.inj hk; obtain rfl : 51 = f := Option.some.inj hf; exact ⟨_, Try.func51, chk9⟩
  · obtain rfl := Option.some.inj hk; obtain rfl : 63 = f := Option.some.inj hf; exact ⟨_, Try.func63, chk10⟩
  · obtain rfl := Option.some.inj hk; obtain rfl : 57 = f := Option.some.inj hf; exact ⟨_, Try.func57, chk11⟩
  · obtain rfl := Option.some.inj hk; obtain rfl : 45 = f := Option.some.inj hf; exact ⟨_, Try.func45, chk12⟩
  · obtain rfl := Option.some.inj hk; obtain rfl : 39 = f := Option.some.inj hf; exact ⟨_, Try.func39, chk13⟩
  · obtain rfl := Option.some.inj hk; obtain rfl : 14 = f := Option.some.inj hf; exact ⟨_, Try.func14, chk21⟩
  · obtain rfl := Option.some.inj hk; obtain rfl : 19 = f := Option.some.inj hf; exact ⟨_, Try.func19, chk22⟩
  · obtain rfl := Option.some.inj hk; obtain rfl : 31 = f := Option.some.inj hf; exact ⟨_, Try.func31, chk23⟩
  · obtain rfl := Option.some.inj hk; obtain rfl : 25 = f := Option.some.inj hf; exact ⟨_, Try.func25, chk24⟩
  · obtain rfl := Option.some.inj hk; obtain rfl : 9 = f := Option.some.inj hf; exact ⟨_, Try.func9, chk25⟩
  · obtain rfl := Option.some.inj hk; obtain rfl : 30 = f := Option.some.inj hf; exact ⟨_, Try.func30, chk26⟩
  · obtain rfl := Option.some.inj hk; obtain rfl : 35 = f := Option.some.inj hf; exact ⟨_, Try.func35, chk27⟩
  · obtain rfl := Option.some.inj hk; obtain rfl : 32 = f := Option.some.inj hf; exact ⟨_, Try.func32, chk28⟩
  · obtain rfl := Option.some.inj hk; obtain rfl : 27 = f := Option.some.inj hf; exact ⟨_, Try.func27, chk29⟩
  · obtain rfl := Option.some.inj hk; obtain rfl : 24 = f := Option.some.inj hf; exact ⟨_, Try.func24, chk30⟩
  · obtain rfl := Option.some.inj hk; obtain rfl : 8 = f := Option.some.inj hf; exact ⟨_, Try.func8, chk48⟩
  · obtain rfl := Option.some.inj hk; obtain rfl : 16 = f := Option.some.inj hf; exact ⟨_, Try.func16, chk49⟩
  · obtain rfl := Option.some.inj hk; obtain rfl : 21 = f := Option.some.inj hf; exact ⟨_, Try.func21, chk53⟩
  · obtain rfl := Option.some.inj hk; obtain rfl : 11 = f := Option.some.inj hf; exact ⟨_, Try.func11, chk55⟩
  · obtain rfl := Option.some.inj hk; obtain rfl : 6 = f := Option.some.inj hf; exact ⟨_, Try.func6, chk56⟩
  · obtain rfl := Option.some.inj hk; obtain rfl : 17 = f := Option.some.inj hf; exact ⟨_, Try.func17, chk57⟩
  · obtain rfl := Option.some.inj hk; obtain rfl : 12 = f := Option.some.inj hf; exact ⟨_, Try.func12, chk58⟩
  · obtain rfl := Option.some.inj hk; obtain rfl : 4 = f := Option.some.inj hf; exact ⟨_, Try.func4, chk59⟩
  · obtain rfl := Option.some.inj hk; obtain rfl : 7 = f := Option.some.inj hf; exact ⟨_, Try.func7, chk66⟩
  · obtain rfl := Option.some.inj hk; obtain rfl : 5 = f := Option.some.inj hf; exact ⟨_, Try.func5, chk67⟩
  · obtain rfl := Option.some.inj hk; obtain rfl : 65 = f := Option.some.inj hf; exact ⟨_, Try.func65, chk79⟩
  · obtain rfl := Option.some.inj hk; obtain rfl : 70 = f := Option.some.inj hf; exact ⟨_, Try.func70, chk80⟩
  · obtain rfl := Option.some.inj hk; obtain rfl : 68 = f := Option.some.inj hf; exact ⟨_, Try.func68, chk81⟩
  · obtain rfl := Option.some.inj hk; obtain rfl : 73 = f := Option.some.inj hf; exact ⟨_, Try.func73, chk82⟩
  · obtain rfl := Option.some.inj hk; obtain rfl : 74 = f := Option.some.inj hf; exact ⟨_, Try.func74, chk83⟩
  · obtain rfl := Option.some.inj hk; obtain rfl : 69 = f := Option.some.inj hf; exact ⟨_, Try.func69, chk84⟩
  · obtain rfl := Option.some.inj hk; obtain rfl : 53 = f := Option.some.inj hf; exact ⟨_, Try.func53, chk85⟩
  · obtain rfl := Option.some.inj hk; obtain rfl : 75 = f := Option.some.inj hf; exact ⟨_, Try.func75, chk86⟩
  · obtain rfl := Option.some.inj hk; obtain rfl : 77 = f := Option.some.inj hf; exact ⟨_, Try.func77, chk95⟩
  · obtain rfl := Option.some.inj hk; obtain rfl : 23 = f := Option.some.inj hf; exact ⟨_, Try.func23, chk97⟩
  · obtain rfl := Option.some.inj hk; obtain rfl : 22 = f := Option.some.inj hf; exact ⟨_, Try.func22, chk98⟩
  · obtain rfl := Option.some.inj hk; obtain rfl : 43 = f := Option.some.inj hf; exact ⟨_, Try.func43, chk99⟩
  · obtain rfl := Option.some.inj hk; obtain rfl : 41 = f := Option.some.inj hf; exact ⟨_, Try.func41, chk100⟩
  · obtain rfl := Option.some.inj hk; obtain rfl : 42 = f := Option.some.inj hf; exact ⟨_, Try.func42, chk101⟩
  · obtain rfl := Option.some.inj hk; obtain rfl : 26 = f := Option.some.inj hf; exact ⟨_, Try.func26, chk102⟩
  · obtain rfl := Option.some.inj hk; obtain rfl : 29 = f := Option.some.inj hf; exact ⟨_, Try.func29, chk103⟩
  · obtain rfl := Option.some.inj hk; obtain rfl : 28 = f := Option.some.inj hf; exact ⟨_, Try.func28, chk104⟩
  · obtain rfl := Option.some.inj hk; obtain rfl : 55 = f := Option.some.inj hf; exact ⟨_, Try.func55, chk105⟩
  · obtain rfl := Option.some.inj hk; obtain rfl : 54 = f := Option.some.inj hf; exact ⟨_, Try.func54, chk106⟩
  · obtain rfl := Option.some.inj hk; obtain rfl : 34 = f := Option.some.inj hf; exact ⟨_, Try.func34, chk107⟩
  · obtain rfl := Option.some.inj hk; obtain rfl : 33 = f := Option.some.inj hf; exact ⟨_, Try.func33, chk108⟩
  · obtain rfl := Option.some.inj hk; obtain rfl : 40 = f := Option.some.inj hf; exact ⟨_, Try.func40, chk109⟩
  · obtain rfl := Option.some.inj hk; obtain rfl : 47 = f := Option.some.inj hf; exact ⟨_, Try.func47, chk110⟩
  · obtain rfl := Option.some.inj hk; obtain rfl : 46 = f := Option.some.inj hf; exact ⟨_, Try.func46, chk111⟩
  · obtain rfl := Option.some.inj hk; obtain rfl : 52 = f := Option.some.inj hf; exact ⟨_, Try.func52, chk112⟩
  · obtain rfl := Option.some.inj hk; obtain rfl : 59 = f := Option.some.inj hf; exact ⟨_, Try.func59, chk113⟩
  · obtain rfl := Option.some.inj hk; obtain rfl : 58 = f := Option.some.inj hf; exact ⟨_, Try.func58, chk114⟩
  · obtain rfl := Option.some.inj hk; obtain rfl : 64 = f := Option.some.inj hf; exact ⟨_, Try.func64, chk115⟩
  · obtain rfl := Option.some.inj hk; obtain rfl : 20 = f := Option.some.inj hf; exact ⟨_, Try.func20, chk130⟩
  · obtain rfl := Option.some.inj hk; obtain rfl : 10 = f := Option.some.inj hf; exact ⟨_, Try.func10, chk134⟩
  · obtain rfl := Option.some.inj hk; obtain rfl : 15 = f := Option.some.inj hf; exact ⟨_, Try.func15, chk135⟩
  · obtain rfl := Option.some.inj hk; obtain rfl : 36 = f := Option.some.inj hf; exact ⟨_, Try.func36, chk146⟩
  · obtain rfl := Option.some.inj hk; obtain rfl : 37 = f := Option.some.inj hf; exact ⟨_, Try.func37, chk147⟩
  · obtain rfl := Option.some.inj hk; obtain rfl : 48 = f := Option.some.inj hf; exact ⟨_, Try.func48, chk148⟩
  · obtain rfl := Option.some.inj hk; obtain rfl : 49 = f := Option.some.inj hf; exact ⟨_, Try.func49, chk149⟩
  · obtain rfl := Option.some.inj hk; obtain rfl : 60 = f := Option.some.inj hf; exact ⟨_, Try.func60, chk150⟩
  · obtain rfl := Option.some.inj hk; obtain rfl : 61 = f := Option.some.inj hf; exact ⟨_, Try.func61, chk151⟩
  · obtain rfl := Option.some.inj hk; obtain rfl : 67 = f := Option.some.inj hf; exact ⟨_, Try.func67, chk152⟩
  · obtain rfl := Option.some.inj hk; obtain rfl : 72 = f := Option.some.inj hf; exact ⟨_, Try.func72, chk153⟩
  · obtain rfl := Option.some.inj hk; obtain rfl : 76 = f := Option.some.inj hf; exact ⟨_, Try.func76, chk154⟩
  · obtain rfl := Option.some.inj hk; obtain rfl : 3 = f := Option.some.inj hf; exact ⟨_, Try.func3, chk178⟩
  · cases hk
theorem tied : Tied Try.prog num P := ⟨by kernel_rfl, fnsOk, fun k f args objs r outs _ _ h => (nomatch h)⟩
end Go.Proofs.Ytkidibombhdbeaa
