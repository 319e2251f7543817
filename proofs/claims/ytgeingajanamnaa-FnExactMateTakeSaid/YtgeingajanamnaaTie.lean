/- That the program's functions are their abstract code: each by the kernel. -/
import Derived.Test.YtgeingajanamnaaTop
import Derived.Test.YtgeingajanamnaaCode
import Derived.Test.YtgeingajanamnaaChecked
import Derived.KernelRfl
namespace Go.Proofs.Ytgeingajanamnaa
open Go
/-- Our numbers, and the program's. -/
def numL : List (Nat × Nat) := [(0, 51), (1, 56), (2, 48), (3, 43), (4, 24), (5, 33), (6, 29), (7, 20), (8, 15), (9, 25), (10, 34), (11, 54), (12, 46), (13, 16), (17, 40), (19, 37), (26, 7), (27, 10), (28, 27), (29, 18), (30, 4), (45, 14), (46, 12), (60, 8), (61, 9), (62, 13), (63, 11), (64, 6), (65, 5), (71, 36), (79, 42), (80, 50), (81, 49), (82, 57), (83, 58), (84, 62), (85, 30), (86, 59), (95, 65), (96, 61), (100, 63), (101, 45), (102, 21), (105, 53), (106, 64), (109, 17), (110, 22), (111, 47), (112, 26), (113, 31), (114, 55), (115, 35), (117, 28), (120, 19), (127, 39), (128, 38), (129, 41), (136, 23), (137, 32), (152, 44), (153, 52), (154, 60), (177, 3)]
def num (k : Nat) : Option FuncId := numL.lookup k
theorem chk0 : chkFn Try.prog num Try.f51 c0 = true := by kernel_rfl
theorem chk1 : chkFn Try.prog num Try.f56 c1 = true := by kernel_rfl
theorem chk2 : chkFn Try.prog num Try.f48 c2 = true := by kernel_rfl
theorem chk3 : chkFn Try.prog num Try.f43 c3 = true := by kernel_rfl
theorem chk4 : chkFn Try.prog num Try.f24 c4 = true := by kernel_rfl
theorem chk5 : chkFn Try.prog num Try.f33 c5 = true := by kernel_rfl
theorem chk6 : chkFn Try.prog num Try.f29 c6 = true := by kernel_rfl
theorem chk7 : chkFn Try.prog num Try.f20 c7 = true := by kernel_rfl
theorem chk8 : chkFn Try.prog num Try.f15 c8 = true := by kernel_rfl
theorem chk9 : chkFn Try.prog num Try.f25 c9 = true := by kernel_rfl
theorem chk10 : chkFn Try.prog num Try.f34 c10 = true := by kernel_rfl
theorem chk11 : chkFn Try.prog num Try.f54 c11 = true := by kernel_rfl
theorem chk12 : chkFn Try.prog num Try.f46 c12 = true := by kernel_rfl
theorem chk13 : chkFn Try.prog num Try.f16 c13 = true := by kernel_rfl
theorem chk17 : chkFn Try.prog num Try.f40 c17 = true := by kernel_rfl
theorem chk19 : chkFn Try.prog num Try.f37 c19 = true := by kernel_rfl
theorem chk26 : chkFn Try.prog num Try.f7 c26 = true := by kernel_rfl
theorem chk27 : chkFn Try.prog num Try.f10 c27 = true := by kernel_rfl
theorem chk28 : chkFn Try.prog num Try.f27 c28 = true := by kernel_rfl
theorem chk29 : chkFn Try.prog num Try.f18 c29 = true := by kernel_rfl
theorem chk30 : chkFn Try.prog num Try.f4 c30 = true := by kernel_rfl
theorem chk45 : chkFn Try.prog num Try.f14 c45 = true := by kernel_rfl
theorem chk46 : chkFn Try.prog num Try.f12 c46 = true := by kernel_rfl
theorem chk60 : chkFn Try.prog num Try.f8 c60 = true := by kernel_rfl
theorem chk61 : chkFn Try.prog num Try.f9 c61 = true := by kernel_rfl
theorem chk62 : chkFn Try.prog num Try.f13 c62 = true := by kernel_rfl
theorem chk63 : chkFn Try.prog num Try.f11 c63 = true := by kernel_rfl
theorem chk64 : chkFn Try.prog num Try.f6 c64 = true := by kernel_rfl
theorem chk65 : chkFn Try.prog num Try.f5 c65 = true := by kernel_rfl
theorem chk71 : chkFn Try.prog num Try.f36 c71 = true := by kernel_rfl
theorem chk79 : chkFn Try.prog num Try.f42 c79 = true := by kernel_rfl
theorem chk80 : chkFn Try.prog num Try.f50 c80 = true := by kernel_rfl
theorem chk81 : chkFn Try.prog num Try.f49 c81 = true := by kernel_rfl
theorem chk82 : chkFn Try.prog num Try.f57 c82 = true := by kernel_rfl
theorem chk83 : chkFn Try.prog num Try.f58 c83 = true := by kernel_rfl
theorem chk84 : chkFn Try.prog num Try.f62 c84 = true := by kernel_rfl
theorem chk85 : chkFn Try.prog num Try.f30 c85 = true := by kernel_rfl
theorem chk86 : chkFn Try.prog num Try.f59 c86 = true := by kernel_rfl
theorem chk95 : chkFn Try.prog num Try.f65 c95 = true := by kernel_rfl
theorem chk96 : chkFn Try.prog num Try.f61 c96 = true := by kernel_rfl
theorem chk100 : chkFn Try.prog num Try.f63 c100 = true := by kernel_rfl
theorem chk101 : chkFn Try.prog num Try.f45 c101 = true := by kernel_rfl
theorem chk102 : chkFn Try.prog num Try.f21 c102 = true := by kernel_rfl
theorem chk105 : chkFn Try.prog num Try.f53 c105 = true := by kernel_rfl
theorem chk106 : chkFn Try.prog num Try.f64 c106 = true := by kernel_rfl
theorem chk109 : chkFn Try.prog num Try.f17 c109 = true := by kernel_rfl
theorem chk110 : chkFn Try.prog num Try.f22 c110 = true := by kernel_rfl
theorem chk111 : chkFn Try.prog num Try.f47 c111 = true := by kernel_rfl
theorem chk112 : chkFn Try.prog num Try.f26 c112 = true := by kernel_rfl
theorem chk113 : chkFn Try.prog num Try.f31 c113 = true := by kernel_rfl
theorem chk114 : chkFn Try.prog num Try.f55 c114 = true := by kernel_rfl
theorem chk115 : chkFn Try.prog num Try.f35 c115 = true := by kernel_rfl
theorem chk117 : chkFn Try.prog num Try.f28 c117 = true := by kernel_rfl
theorem chk120 : chkFn Try.prog num Try.f19 c120 = true := by kernel_rfl
theorem chk127 : chkFn Try.prog num Try.f39 c127 = true := by kernel_rfl
theorem chk128 : chkFn Try.prog num Try.f38 c128 = true := by kernel_rfl
theorem chk129 : chkFn Try.prog num Try.f41 c129 = true := by kernel_rfl
theorem chk136 : chkFn Try.prog num Try.f23 c136 = true := by kernel_rfl
theorem chk137 : chkFn Try.prog num Try.f32 c137 = true := by kernel_rfl
theorem chk152 : chkFn Try.prog num Try.f44 c152 = true := by kernel_rfl
theorem chk153 : chkFn Try.prog num Try.f52 c153 = true := by kernel_rfl
theorem chk154 : chkFn Try.prog num Try.f60 c154 = true := by kernel_rfl
theorem chk177 : chkFn Try.prog num Try.f3 c177 = true := by kernel_rfl
theorem fnsOk : ∀ k c, codeOf k = some c → ∀ f, num k = some f → ∃ fn, Try.prog.funcs[f]? = some fn ∧ chkFn Try.prog num fn c = true := by
  intro k c hk f hf
  unfold codeOf at hk
  split at hk
  · obtain rfl := Option.some.inj hk; obtain rfl : 51 = f := Option.some.inj hf; exact ⟨_, Try.func51, chk0⟩
  · obtain rfl := Option.some.inj hk; obtain rfl : 56 = f := Option.some.inj hf; exact ⟨_, Try.func56, chk1⟩
  · obtain rfl := Option.some.inj hk; obtain rfl : 48 = f := Option.some.inj hf; exact ⟨_, Try.func48, chk2⟩
  · obtain rfl := Option.some.inj hk; obtain rfl : 43 = f := Option.some.inj hf; exact ⟨_, Try.func43, chk3⟩
  · obtain rfl := Option.some.inj hk; obtain rfl : 24 = f := Option.some.inj hf; exact ⟨_, Try.func24, chk4⟩
  · obtain rfl := Option.some.inj hk; obtain rfl : 33 = f := Option.some.inj hf; exact ⟨_, Try.func33, chk5⟩
  · obtain rfl := Option.some.inj hk; obtain rfl : 29 = f := Option.some.inj hf; exact ⟨_, Try.func29, chk6⟩
  · obtain rfl := Option.some.inj hk; obtain rfl : 20 = f := Option.some.inj hf; exact ⟨_, Try.func20, chk7⟩
  · obtain rfl := Option.some.inj hk; obtain rfl : 15 = f := Option.some.inj hf; exact ⟨_, Try.func15, chk8⟩
  · obtain rfl := Option.some.inj hk; obtain rfl : 25 = f := Option.some.inj hf; exact ⟨_, Try.func25, chk9⟩
  · obtain rfl := Option.some.inj hk; obtain rfl : 34 = f := Option.some.inj hf; exact ⟨_, Try.func34, chk10⟩
  · obtain rfl := Option.some.inj hk; obtain rfl : 54 = f := Option.some.inj hf; exact ⟨_, Try.func54, chk11⟩
  · obtain rfl := Option.some.inj hk; obtain rfl : 46 = f := Option.some.inj hf; exact ⟨_, Try.func46, chk12⟩
  · obtain rfl := Option.some.inj hk; obtain rfl : 16 = f := Option.some.inj hf; exact ⟨_, Try.func16, chk13⟩
  · obtain rfl := Option.some.inj hk; obtain rfl : 40 = f := Option.some.inj hf; exact ⟨_, Try.func40, chk17⟩
  · obtain rfl := Option.some.inj hk; obtain rfl : 37 = f := Option.some.inj hf; exact ⟨_, Try.func37, chk19⟩
  · obtain rfl := Option.some.inj hk; obtain rfl : 7 = f := Option.some.inj hf; exact ⟨_, Try.func7, chk26⟩
  · obtain rfl := Option.some.inj hk; obtain rfl : 10 = f := Option.some.inj hf; exact ⟨_, Try.func10, chk27⟩
  · obtain rfl := Option.some.inj hk; obtain rfl : 27 = f := Option.some.inj hf; exact ⟨_, Try.func27, chk28⟩
  · obtain rfl := Option.some.inj hk; obtain rfl : 18 = f := Option.some.inj hf; exact ⟨_, Try.func18, chk29⟩
  · obtain rfl := Option.some.inj hk; obtain rfl : 4 = f := Option.some.inj hf; exact ⟨_, Try.func4, chk30⟩
  · obtain rfl := Option.some.inj hk; obtain rfl : 14 = f := Option.some.inj hf; exact ⟨_, Try.func14, chk45⟩
  · obtain rfl := Option.some.inj hk; obtain rfl : 12 = f := Option.some.inj hf; exact ⟨_, Try.func12, chk46⟩
  · obtain rfl := Option.some.inj hk; obtain rfl : 8 = f := Option.some.inj hf; exact ⟨_, Try.func8, chk60⟩
  · obtain rfl := Option.some.inj hk; obtain rfl : 9 = f := Option.some.inj hf; exact ⟨_, Try.func9, chk61⟩
  · obtain rfl := Option.some.inj hk; obtain rfl : 13 = f := Option.some.inj hf; exact ⟨_, Try.func13, chk62⟩
  · obtain rfl := Option.some.inj hk; obtain rfl : 11 = f := Option.some.inj hf; exact ⟨_, Try.func11, chk63⟩
  · obtain rfl := Option.some.inj hk; obtain rfl : 6 = f := Option.some.inj hf; exact ⟨_, Try.func6, chk64⟩
  · obtain rfl := Option.some.inj hk; obtain rfl : 5 = f := Option.some.inj hf; exact ⟨_, Try.func5, chk65⟩
  · obtain rfl := Option.some.inj hk; obtain rfl : 36 = f := Option.some.inj hf; exact ⟨_, Try.func36, chk71⟩
  · obtain rfl := Option.some.inj hk; obtain rfl : 42 = f := Option.some.inj hf; exact ⟨_, Try.func42, chk79⟩
  · obtain rfl := Option.some.inj hk; obtain rfl : 50 = f := Option.some.inj hf; exact ⟨_, Try.func50, chk80⟩
  · obtain rfl := Option.some.inj hk; obtain rfl : 49 = f := Option.some.inj hf; exact ⟨_, Try.func49, chk81⟩
  · obtain rfl := Option.some.inj hk; obtain rfl : 57 = f := Option.some.inj hf; exact ⟨_, Try.func57, chk82⟩
  · obtain rfl := Option.some.inj hk; obtain rfl : 58 = f := Option.some.inj hf; exact ⟨_, Try.func58, chk83⟩
  · obtain rfl := Option.some.inj hk; obtain rfl : 62 = f := Option.some.inj hf; exact ⟨_, Try.func62, chk84⟩
  · obtain rfl := Option.some.inj hk; obtain rfl : 30 = f := Option.some.inj hf; exact ⟨_, Try.func30, chk85⟩
  · obtain rfl := Option.some.inj hk; obtain rfl : 59 = f := Option.some.inj hf; exact ⟨_, Try.func59, chk86⟩
  · obtain rfl := Option.some.inj hk; obtain rfl : 65 = f := Option.some.inj hf; exact ⟨_, Try.func65, chk95⟩
  · obtain rfl := Option.some.inj hk; obtain rfl : 61 = f := Option.some.inj hf; exact ⟨_, Try.func61, chk96⟩
  · obtain rfl := Option.some.inj hk; obtain rfl : 63 = f := Option.some.inj hf; exact ⟨_, Try.func63, chk100⟩
  · obtain rfl := Option.some.inj hk; obtain rfl : 45 = f := Option.some.inj hf; exact ⟨_, Try.func45, chk101⟩
  · obtain rfl := Option.some.inj hk; obtain rfl : 21 = f := Option.some.inj hf; exact ⟨_, Try.func21, chk102⟩
  · obtain rfl := Option.some.inj hk; obtain rfl : 53 = f := Option.some.inj hf; exact ⟨_, Try.func53, chk105⟩
  · obtain rfl := Option.some.inj hk; obtain rfl : 64 = f := Option.some.inj hf; exact ⟨_, Try.func64, chk106⟩
  · obtain rfl := Option.some.inj hk; obtain rfl : 17 = f := Option.some.inj hf; exact ⟨_, Try.func17, chk109⟩
  · obtain rfl := Option.some.inj hk; obtain rfl : 22 = f := Option.some.inj hf; exact ⟨_, Try.func22, chk110⟩
  · obtain rfl := Option.some.inj hk; obtain rfl : 47 = f := Option.some.inj hf; exact ⟨_, Try.func47, chk111⟩
  · obtain rfl := Option.some.inj hk; obtain rfl : 26 = f := Option.some.inj hf; exact ⟨_, Try.func26, chk112⟩
  · obtain rfl := Option.some.inj hk; obtain rfl : 31 = f := Option.some.inj hf; exact ⟨_, Try.func31, chk113⟩
  · obtain rfl := Option.some.inj hk; obtain rfl : 55 = f := Option.some.inj hf; exact ⟨_, Try.func55, chk114⟩
  · obtain rfl := Option.some.inj hk; obtain rfl : 35 = f := Option.some.inj hf; exact ⟨_, Try.func35, chk115⟩
  · obtain rfl := Option.some.inj hk; obtain rfl : 28 = f := Option.some.inj hf; exact ⟨_, Try.func28, chk117⟩
  · obtain rfl := Option.some.inj hk; obtain rfl : 19 = f := Option.some.inj hf; exact ⟨_, Try.func19, chk120⟩
  · obtain rfl := Option.some.inj hk; obtain rfl : 39 = f := Option.some.inj hf; exact ⟨_, Try.func39, chk127⟩
  · obtain rfl := Option.some.inj hk; obtain rfl : 38 = f := Option.some.inj hf; exact ⟨_, Try.func38, chk128⟩
  · obtain rfl := Option.some.inj hk; obtain rfl : 41 = f := Option.some.inj hf; exact ⟨_, Try.func41, chk129⟩
  · obtain rfl := Option.some.inj hk; obtain rfl : 23 = f := Option.some.inj hf; exact ⟨_, Try.func23, chk136⟩
  · obtain rfl := Option.some.inj hk; obtain rfl : 32 = f := Option.some.inj hf; exact ⟨_, Try.func32, chk137⟩
  · obtain rfl := Option.some.inj hk; obtain rfl : 44 = f := Option.some.inj hf; exact ⟨_, Try.func44, chk152⟩
  · obtain rfl := Option.some.inj hk; obtain rfl : 52 = f := Option.some.inj hf; exact ⟨_, Try.func52, chk153⟩
  · obtain rfl := Option.some.inj hk; obtain rfl : 60 = f := Option.some.inj hf; exact ⟨_, Try.func60, chk154⟩
  · obtain rfl := Option.some.inj hk; obtain rfl : 3 = f := Option.some.inj hf; exact ⟨_, Try.func3, chk177⟩
  · cases hk
theorem tied : Tied Try.prog num P := ⟨by kernel_rfl, fnsOk, fun k f args objs r outs _ _ h => (nomatch h)⟩
end Go.Proofs.Ytgeingajanamnaa
