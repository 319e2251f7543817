/- That the program's functions are their abstract code: each by the kernel. -/
import Derived.Test.YtnnkljdhmpoifaaTop
import Derived.Test.YtnnkljdhmpoifaaCode
import Derived.Test.YtnnkljdhmpoifaaChecked
import Derived.KernelRfl
namespace Go.Proofs.Ytnnkljdhmpoifaa
open Go
/-- Our numbers, and the program's. -/
def numL : List (Nat × Nat) := [(0, 72), (1, 60), (2, 47), (3, 67), (4, 50), (5, 63), (6, 56), (7, 43), (8, 37), (9, 51), (10, 64), (11, 57), (12, 44), (13, 38), (21, 14), (22, 18), (23, 30), (24, 24), (25, 9), (26, 29), (27, 34), (28, 31), (29, 26), (30, 23), (48, 8), (49, 16), (53, 20), (55, 11), (56, 6), (57, 17), (58, 12), (59, 4), (68, 7), (69, 5), (79, 66), (80, 71), (81, 69), (82, 74), (83, 75), (84, 70), (85, 53), (86, 76), (95, 78), (97, 22), (98, 21), (99, 42), (100, 40), (101, 41), (102, 25), (103, 28), (104, 27), (105, 55), (106, 54), (107, 33), (108, 32), (109, 39), (110, 46), (111, 45), (112, 52), (113, 59), (114, 58), (115, 65), (130, 19), (134, 10), (135, 15), (138, 13), (146, 35), (147, 36), (148, 48), (149, 49), (150, 61), (151, 62), (152, 68), (153, 73), (154, 77), (179, 3)]
def num (k : Nat) : Option FuncId := numL.lookup k
theorem chk0 : chkFn Try.prog num Try.f72 c0 = true := by kernel_rfl
theorem chk1 : chkFn Try.prog num Try.f60 c1 = true := by kernel_rfl
theorem chk2 : chkFn Try.prog num Try.f47 c2 = true := by kernel_rfl
theorem chk3 : chkFn Try.prog num Try.f67 c3 = true := by kernel_rfl
theorem chk4 : chkFn Try.prog num Try.f50 c4 = true := by kernel_rfl
theorem chk5 : chkFn Try.prog num Try.f63 c5 = true := by kernel_rfl
theorem chk6 : chkFn Try.prog num Try.f56 c6 = true := by kernel_rfl
theorem chk7 : chkFn Try.prog num Try.f43 c7 = true := by kernel_rfl
theorem chk8 : chkFn Try.prog num Try.f37 c8 = true := by kernel_rfl
theorem chk9 : chkFn Try.prog num Try.f51 c9 = true := by kernel_rfl
theorem chk10 : chkFn Try.prog num Try.f64 c10 = true := by kernel_rfl
theorem chk11 : chkFn Try.prog num Try.f57 c11 = true := by kernel_rfl
theorem chk12 : chkFn Try.prog num Try.f44 c12 = true := by kernel_rfl
theorem chk13 : chkFn Try.prog num Try.f38 c13 = true := by kernel_rfl
theorem chk21 : chkFn Try.prog num Try.f14 c21 = true := by kernel_rfl
theorem chk22 : chkFn Try.prog num Try.f18 c22 = true := by kernel_rfl
theorem chk23 : chkFn Try.prog num Try.f30 c23 = true := by kernel_rfl
theorem chk24 : chkFn Try.prog num Try.f24 c24 = true := by kernel_rfl
theorem chk25 : chkFn Try.prog num Try.f9 c25 = true := by kernel_rfl
theorem chk26 : chkFn Try.prog num Try.f29 c26 = true := by kernel_rfl
theorem chk27 : chkFn Try.prog num Try.f34 c27 = true := by kernel_rfl
theorem chk28 : chkFn Try.prog num Try.f31 c28 = true := by kernel_rfl
theorem chk29 : chkFn Try.prog num Try.f26 c29 = true := by kernel_rfl
theorem chk30 : chkFn Try.prog num Try.f23 c30 = true := by kernel_rfl
theorem chk48 : chkFn Try.prog num Try.f8 c48 = true := by kernel_rfl
theorem chk49 : chkFn Try.prog num Try.f16 c49 = true := by kernel_rfl
theorem chk53 : chkFn Try.prog num Try.f20 c53 = true := by kernel_rfl
theorem chk55 : chkFn Try.prog num Try.f11 c55 = true := by kernel_rfl
theorem chk56 : chkFn Try.prog num Try.f6 c56 = true := by kernel_rfl
theorem chk57 : chkFn Try.prog num Try.f17 c57 = true := by kernel_rfl
theorem chk58 : chkFn Try.prog num Try.f12 c58 = true := by kernel_rfl
theorem chk59 : chkFn Try.prog num Try.f4 c59 = true := by kernel_rfl
theorem chk68 : chkFn Try.prog num Try.f7 c68 = true := by kernel_rfl
theorem chk69 : chkFn Try.prog num Try.f5 c69 = true := by kernel_rfl
theorem chk79 : chkFn Try.prog num Try.f66 c79 = true := by kernel_rfl
theorem chk80 : chkFn Try.prog num Try.f71 c80 = true := by kernel_rfl
theorem chk81 : chkFn Try.prog num Try.f69 c81 = true := by kernel_rfl
theorem chk82 : chkFn Try.prog num Try.f74 c82 = true := by kernel_rfl
theorem chk83 : chkFn Try.prog num Try.f75 c83 = true := by kernel_rfl
theorem chk84 : chkFn Try.prog num Try.f70 c84 = true := by kernel_rfl
theorem chk85 : chkFn Try.prog num Try.f53 c85 = true := by kernel_rfl
theorem chk86 : chkFn Try.prog num Try.f76 c86 = true := by kernel_rfl
theorem chk95 : chkFn Try.prog num Try.f78 c95 = true := by kernel_rfl
theorem chk97 : chkFn Try.prog num Try.f22 c97 = true := by kernel_rfl
theorem chk98 : chkFn Try.prog num Try.f21 c98 = true := by kernel_rfl
theorem chk99 : chkFn Try.prog num Try.f42 c99 = true := by kernel_rfl
theorem chk100 : chkFn Try.prog num Try.f40 c100 = true := by kernel_rfl
theorem chk101 : chkFn Try.prog num Try.f41 c101 = true := by kernel_rfl
theorem chk102 : chkFn Try.prog num Try.f25 c102 = true := by kernel_rfl
theorem chk103 : chkFn Try.prog num Try.f28 c103 = true := by kernel_rfl
theorem chk104 : chkFn Try.prog num Try.f27 c104 = true := by kernel_rfl
theorem chk105 : chkFn Try.prog num Try.f55 c105 = true := by kernel_rfl
theorem chk106 : chkFn Try.prog num Try.f54 c106 = true := by kernel_rfl
theorem chk107 : chkFn Try.prog num Try.f33 c107 = true := by kernel_rfl
theorem chk108 : chkFn Try.prog num Try.f32 c108 = true := by kernel_rfl
theorem chk109 : chkFn Try.prog num Try.f39 c109 = true := by kernel_rfl
theorem chk110 : chkFn Try.prog num Try.f46 c110 = true := by kernel_rfl
theorem chk111 : chkFn Try.prog num Try.f45 c111 = true := by kernel_rfl
theorem chk112 : chkFn Try.prog num Try.f52 c112 = true := by kernel_rfl
theorem chk113 : chkFn Try.prog num Try.f59 c113 = true := by kernel_rfl
theorem chk114 : chkFn Try.prog num Try.f58 c114 = true := by kernel_rfl
theorem chk115 : chkFn Try.prog num Try.f65 c115 = true := by kernel_rfl
theorem chk130 : chkFn Try.prog num Try.f19 c130 = true := by kernel_rfl
theorem chk134 : chkFn Try.prog num Try.f10 c134 = true := by kernel_rfl
theorem chk135 : chkFn Try.prog num Try.f15 c135 = true := by kernel_rfl
theorem chk138 : chkFn Try.prog num Try.f13 c138 = true := by kernel_rfl
theorem chk146 : chkFn Try.prog num Try.f35 c146 = true := by kernel_rfl
theorem chk147 : chkFn Try.prog num Try.f36 c147 = true := by kernel_rfl
theorem chk148 : chkFn Try.prog num Try.f48 c148 = true := by kernel_rfl
theorem chk149 : chkFn Try.prog num Try.f49 c149 = true := by kernel_rfl
theorem chk150 : chkFn Try.prog num Try.f61 c150 = true := by kernel_rfl
theorem chk151 : chkFn Try.prog num Try.f62 c151 = true := by kernel_rfl
theorem chk152 : chkFn Try.prog num Try.f68 c152 = true := by kernel_rfl
theorem chk153 : chkFn Try.prog num Try.f73 c153 = true := by kernel_rfl
theorem chk154 : chkFn Try.prog num Try.f77 c154 = true := by kernel_rfl
theorem chk179 : chkFn Try.prog num Try.f3 c179 = true := by kernel_rfl
theorem fnsOk : ∀ k c, codeOf k = some c → ∀ f, num k = some f → ∃ fn, Try.prog.funcs[f]? = some fn ∧ chkFn Try.prog num fn c = true := by
  intro k c hk f hf
  unfold codeOf at hk
  split at hk
  · obtain rfl := Option.some.inj hk; obtain rfl : 72 = f := Option.some.inj hf; exact ⟨_, Try.func72, chk0⟩
  · obtain rfl := Option.some.inj hk; obtain rfl : 60 = f := Option.some.inj hf; exact ⟨_, Try.func60, chk1⟩
  · obtain rfl := Option.some.inj hk; obtain rfl : 47 = f := Option.some.inj hf; exact ⟨_, Try.func47, chk2⟩
  · obtain rfl := Option.some.inj hk; obtain rfl : 67 = f := Option.some.inj hf; exact ⟨_, Try.func67, chk3⟩
  · obtain rfl := Option.some.inj hk; obtain rfl : 50 = f := Option.some.inj hf; exact ⟨_, Try.func50, chk4⟩
  · obtain rfl := Option.some.inj hk; obtain rfl : 63 = f := Option.some.inj hf; exact ⟨_, Try.func63, chk5⟩
  · obtain rfl := Option.some.inj hk; obtain rfl : 56 = f := Option.some.inj hf; exact ⟨_, Try.func56, chk6⟩
  · obtain rfl := Option.some.inj hk; obtain rfl : 43 = f := Option.some.inj hf; exact ⟨_, Try.func43, chk7⟩
  · obtain rfl := Option.some.inj hk; obtain rfl : 37 = f := Option.some.inj hf; exact ⟨_, Try.func37, chk8⟩
  · obtain rfl := Option.some.inj hk; obtain rfl : 51 = f := Option.some.inj hf; exact ⟨_, Try.func51, chk9⟩
  · obtain rfl := Option.some.inj hk; obtain rfl : 64 = f := Option.some.inj hf; exact ⟨_, Try.func64, chk10⟩
  · obtain rfl := Option.some.inj hk; obtain rfl : 57 = f := Option.some.inj hf; exact ⟨_, Try.func57, chk11⟩
  · obtain rfl := Option.some.inj hk; obtain rfl : 44 = f := Option.some.inj hf; exact ⟨_, Try.func44, chk12⟩
  · obtain rfl := Option.some.inj hk; obtain rfl : 38 = f := Option.some.inj hf; exact ⟨_, Try.func38, chk13⟩
  · obtain rfl := Option.some.inj hk; obtain rfl : 14 = f := Option.some.inj hf; exact ⟨_, Try.func14, chk21⟩
  · obtain rfl := Option.some.inj hk; obtain rfl : 18 = f := Option.some.inj hf; exact ⟨_, Try.func18, chk22⟩
  · obtain rfl := Option.some.inj hk; obtain rfl : 30 = f := Option.some.inj hf; exact ⟨_, Try.func30, chk23⟩
  · obtain rfl := Option.some.inj hk; obtain rfl : 24 = f := Option.some.inj hf; exact ⟨_, Try.func24, chk24⟩
  · obtain rfl := Option.some.inj hk; obtain rfl : 9 = f := Option.some.inj hf; exact ⟨_, Try.func9, chk25⟩
  · obtain rfl := Option.some.inj hk; obtain rfl : 29 = f := Option.some.inj hf; exact ⟨_, Try.func29, chk26⟩
  · obtain rfl := Option.some.inj hk; obtain rfl : 34 = f := Option.some.inj hf; exact ⟨_, Try.func34, chk27⟩
  · obtain rfl := Option.some.inj hk; obtain rfl : 31 = f := Option.some.inj hf; exact ⟨_, Try.func31, chk28⟩
  · obtain rfl := Option.some.inj hk; obtain rfl : 26 = f := Option.some.inj hf; exact ⟨_, Try.func26, chk29⟩
  · obtain rfl := Option.some.inj hk; obtain rfl : 23 = f := Option.some.inj hf; exact ⟨_, Try.func23, chk30⟩
  · obtain rfl := Option.some.inj hk; obtain rfl : 8 = f := Option.some.inj hf; exact ⟨_, Try.func8, chk48⟩
  · obtain rfl := Option.some.inj hk; obtain rfl : 16 = f := Option.some.inj hf; exact ⟨_, Try.func16, chk49⟩
  · obtain rfl := Option.some.inj hk; obtain rfl : 20 = f := Option.some.inj hf; exact ⟨_, Try.func20, chk53⟩
  · obtain rfl := Option.some.inj hk; obtain rfl : 11 = f := Option.some.inj hf; exact ⟨_, Try.func11, chk55⟩
  · obtain rfl := Option.some.inj hk; obtain rfl : 6 = f := Option.some.inj hf; exact ⟨_, Try.func6, chk56⟩
  · obtain rfl := Option.some.inj hk; obtain rfl : 17 = f := Option.some.inj hf; exact ⟨_, Try.func17, chk57⟩
  · obtain rfl := Option.some.inj hk; obtain rfl : 12 = f := Option.some.inj hf; exact ⟨_, Try.func12, chk58⟩
  · obtain rfl := Option.some.inj hk; obtain rfl : 4 = f := Option.some.inj hf; exact ⟨_, Try.func4, chk59⟩
  · obtain rfl := Option.some.inj hk; obtain rfl : 7 = f := Option.some.inj hf; exact ⟨_, Try.func7, chk68⟩
  · obtain rfl := Option.some.inj hk; obtain rfl : 5 = f := Option.some.inj hf; exact ⟨_, Try.func5, chk69⟩
  · obtain rfl := Option.some.inj hk; obtain rfl : 66 = f := Option.some.inj hf; exact ⟨_, Try.func66, chk79⟩
  · obtain rfl := Option.some.inj hk; obtain rfl : 71 = f := Option.some.inj hf; exact ⟨_, Try.func71, chk80⟩
  · obtain rfl := Option.some.inj hk; obtain rfl : 69 = f := Option.some.inj hf; exact ⟨_, Try.func69, chk81⟩
  · obtain rfl := Option.some.inj hk; obtain rfl : 74 = f := Option.some.inj hf; exact ⟨_, Try.func74, chk82⟩
  · obtain rfl := Option.some.inj hk; obtain rfl : 75 = f := Option.some.inj hf; exact ⟨_, Try.func75, chk83⟩
  · obtain rfl := Option.some.inj hk; obtain rfl : 70 = f := Option.some.inj hf; exact ⟨_, Try.func70, chk84⟩
  · obtain rfl := Option.some.inj hk; obtain rfl : 53 = f := Option.some.inj hf; exact ⟨_, Try.func53, chk85⟩
  · obtain rfl := Option.some.inj hk; obtain rfl : 76 = f := Option.some.inj hf; exact ⟨_, Try.func76, chk86⟩
  · obtain rfl := Option.some.inj hk; obtain rfl : 78 = f := Option.some.inj hf; exact ⟨_, Try.func78, chk95⟩
  · obtain rfl := Option.some.inj hk; obtain rfl : 22 = f := Option.some.inj hf; exact ⟨_, Try.func22, chk97⟩
  · obtain rfl := Option.some.inj hk; obtain rfl : 21 = f := Option.some.inj hf; exact ⟨_, Try.func21, chk98⟩
  · obtain rfl := Option.some.inj hk; obtain rfl : 42 = f := Option.some.inj hf; exact ⟨_, Try.func42, chk99⟩
  · obtain rfl := Option.some.inj hk; obtain rfl : 40 = f := Option.some.inj hf; exact ⟨_, Try.func40, chk100⟩
  · obtain rfl := Option.some.inj hk; obtain rfl : 41 = f := Option.some.inj hf; exact ⟨_, Try.func41, chk101⟩
  · obtain rfl := Option.some.inj hk; obtain rfl : 25 = f := Option.some.inj hf; exact ⟨_, Try.func25, chk102⟩
  · obtain rfl := Option.some.inj hk; obtain rfl : 28 = f := Option.some.inj hf; exact ⟨_, Try.func28, chk103⟩
  · obtain rfl := Option.some.inj hk; obtain rfl : 27 = f := Option.some.inj hf; exact ⟨_, Try.func27, chk104⟩
  · obtain rfl := Option.some.inj hk; obtain rfl : 55 = f := Option.some.inj hf; exact ⟨_, Try.func55, chk105⟩
  · obtain rfl := Option.some.inj hk; obtain rfl : 54 = f := Option.some.inj hf; exact ⟨_, Try.func54, chk106⟩
  · obtain rfl := Option.some.inj hk; obtain rfl : 33 = f := Option.some.inj hf; exact ⟨_, Try.func33, chk107⟩
  · obtain rfl := Option.some.inj hk; obtain rfl : 32 = f := Option.some.inj hf; exact ⟨_, Try.func32, chk108⟩
  · obtain rfl := Option.some.inj hk; obtain rfl : 39 = f := Option.some.inj hf; exact ⟨_, Try.func39, chk109⟩
  · obtain rfl := Option.some.inj hk; obtain rfl : 46 = f := Option.some.inj hf; exact ⟨_, Try.func46, chk110⟩
  · obtain rfl := Option.some.inj hk; obtain rfl : 45 = f := Option.some.inj hf; exact ⟨_, Try.func45, chk111⟩
  · obtain rfl := Option.some.inj hk; obtain rfl : 52 = f := Option.some.inj hf; exact ⟨_, Try.func52, chk112⟩
  · obtain rfl := Option.some.inj hk; obtain rfl : 59 = f := Option.some.inj hf; exact ⟨_, Try.func59, chk113⟩
  · obtain rfl := Option.some.inj hk; obtain rfl : 58 = f := Option.some.inj hf; exact ⟨_, Try.func58, chk114⟩
  · obtain rfl := Option.some.inj hk; obtain rfl : 65 = f := Option.some.inj hf; exact ⟨_, Try.func65, chk115⟩
  · obtain rfl := Option.some.inj hk; obtain rfl : 19 = f := Option.some.inj hf; exact ⟨_, Try.func19, chk130⟩
  · obtain rfl := Option.some.inj hk; obtain rfl : 10 = f := Option.some.inj hf; exact ⟨_, Try.func10, chk134⟩
  · obtain rfl := Option.some.inj hk; obtain rfl : 15 = f := Option.some.inj hf; exact ⟨_, Try.func15, chk135⟩
  · obtain rfl := Option.some.inj hk; obtain rfl : 13 = f := Option.some.inj hf; exact ⟨_, Try.func13, chk138⟩
  · obtain rfl := Option.some.inj hk; obtain rfl : 35 = f := Option.some.inj hf; exact ⟨_, Try.func35, chk146⟩
  · obtain rfl := Option.some.inj hk; obtain rfl : 36 = f := Option.some.inj hf; exact ⟨_, Try.func36, chk147⟩
  · obtain rfl := Option.some.inj hk; obtain rfl : 48 = f := Option.some.inj hf; exact ⟨_, Try.func48, chk148⟩
  · obtain rfl := Option.some.inj hk; obtain rfl : 49 = f := Option.some.inj hf; exact ⟨_, Try.func49, chk149⟩
  · obtain rfl := Option.some.inj hk; obtain rfl : 61 = f := Option.some.inj hf; exact ⟨_, Try.func61, chk150⟩
  · obtain rfl := Option.some.inj hk; obtain rfl : 62 = f := Option.some.inj hf; exact ⟨_, Try.func62, chk151⟩
  · obtain rfl := Option.some.inj hk; obtain rfl : 68 = f := Option.some.inj hf; exact ⟨_, Try.func68, chk152⟩
  · obtain rfl := Option.some.inj hk; obtain rfl : 73 = f := Option.some.inj hf; exact ⟨_, Try.func73, chk153⟩
  · obtain rfl := Option.some.inj hk; obtain rfl : 77 = f := Option.some.inj hf; exact ⟨_, Try.func77, chk154⟩
  · obtain rfl := Option.some.inj hk; obtain rfl : 3 = f := Option.some.inj hf; exact ⟨_, Try.func3, chk179⟩
  · cases hk
theorem tied : Tied Try.prog num P := ⟨by kernel_rfl, fnsOk, fun k f args objs r outs _ _ h => (nomatch h)⟩
end Go.Proofs.Ytnnkljdhmpoifaa
