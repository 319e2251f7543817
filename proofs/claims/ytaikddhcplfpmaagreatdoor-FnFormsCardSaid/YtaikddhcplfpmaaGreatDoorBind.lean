/- That the program's functions are their abstract code: each by the kernel. -/
import Derived.Test.YtaikddhcplfpmaaGreatDoorB7
import Derived.Test.YtaikddhcplfpmaaGreatDoorCode
import Derived.Test.YtaikddhcplfpmaaGreatDoorChecked
import Derived.KernelRfl
namespace Go.Proofs.YtaikddhcplfpmaaGreatDoor
open Go
set_option maxRecDepth 100000
/-- Our numbers, and the program's. -/
def numL : List (Nat × Nat) := [(1, 44), (2, 58), (6, 13), (7, 14), (11, 15), (12, 16), (81, 43), (82, 42), (84, 45), (85, 22), (87, 54), (88, 41), (89, 19), (90, 56), (91, 17), (95, 59), (100, 29), (101, 28), (102, 30), (105, 21), (106, 57), (118, 33), (140, 31), (143, 8), (144, 39), (145, 38), (160, 55), (162, 40), (189, 34), (194, 35), (207, 6), (218, 5), (226, 37), (235, 10), (236, 7), (239, 36), (240, 32), (262, 3), (263, 12), (264, 11), (265, 9), (266, 4), (267, 18), (222, 24), (220, 25), (230, 23), (231, 20), (221, 26)]
def num (k : Nat) : Option FuncId := numL.lookup k
theorem chk1 : chkFn Tryz.prog num Tryz.f44 c1 = true := by kernel_rfl
theorem chk2 : chkFn Tryz.prog num Tryz.f58 c2 = true := by kernel_rfl
theorem chk6 : chkFn Tryz.prog num Tryz.f13 c6 = true := by kernel_rfl
theorem chk7 : chkFn Tryz.prog num Tryz.f14 c7 = true := by kernel_rfl
theorem chk11 : chkFn Tryz.prog num Tryz.f15 c11 = true := by kernel_rfl
theorem chk12 : chkFn Tryz.prog num Tryz.f16 c12 = true := by kernel_rfl
theorem chk81 : chkFn Tryz.prog num Tryz.f43 c81 = true := by kernel_rfl
theorem chk82 : chkFn Tryz.prog num Tryz.f42 c82 = true := by kernel_rfl
theorem chk84 : chkFn Tryz.prog num Tryz.f45 c84 = true := by kernel_rfl
theorem chk85 : chkFn Tryz.prog num Tryz.f22 c85 = true := by kernel_rfl
theorem chk87 : chkFn Tryz.prog num Tryz.f54 c87 = true := by kernel_rfl
theorem chk88 : chkFn Tryz.prog num Tryz.f41 c88 = true := by kernel_rfl
theorem chk89 : chkFn Tryz.prog num Tryz.f19 c89 = true := by kernel_rfl
theorem chk90 : chkFn Tryz.prog num Tryz.f56 c90 = true := by kernel_rfl
theorem chk91 : chkFn Tryz.prog num Tryz.f17 c91 = true := by kernel_rfl
theorem chk95 : chkFn Tryz.prog num Tryz.f59 c95 = true := by kernel_rfl
theorem chk100 : chkFn Tryz.prog num Tryz.f29 c100 = true := by kernel_rfl
theorem chk101 : chkFn Tryz.prog num Tryz.f28 c101 = true := by kernel_rfl
theorem chk102 : chkFn Tryz.prog num Tryz.f30 c102 = true := by kernel_rfl
theorem chk105 : chkFn Tryz.prog num Tryz.f21 c105 = true := by kernel_rfl
theorem chk106 : chkFn Tryz.prog num Tryz.f57 c106 = true := by kernel_rfl
theorem chk118 : chkFn Tryz.prog num Tryz.f33 c118 = true := by kernel_rfl
theorem chk140 : chkFn Tryz.prog num Tryz.f31 c140 = true := by kernel_rfl
theorem chk143 : chkFn Tryz.prog num Tryz.f8 c143 = true := by kernel_rfl
theorem chk144 : chkFn Tryz.prog num Tryz.f39 c144 = true := by kernel_rfl
theorem chk145 : chkFn Tryz.prog num Tryz.f38 c145 = true := by kernel_rfl
theorem chk160 : chkFn Tryz.prog num Tryz.f55 c160 = true := by kernel_rfl
theorem chk162 : chkFn Tryz.prog num Tryz.f40 c162 = true := by kernel_rfl
theorem chk189 : chkFn Tryz.prog num Tryz.f34 c189 = true := by kernel_rfl
theorem chk194 : chkFn Tryz.prog num Tryz.f35 c194 = true := by kernel_rfl
theorem chk207 : chkFn Tryz.prog num Tryz.f6 c207 = true := by kernel_rfl
theorem chk218 : chkFn Tryz.prog num Tryz.f5 c218 = true := by kernel_rfl
theorem chk226 : chkFn Tryz.prog num Tryz.f37 c226 = true := by kernel_rfl
theorem chk235 : chkFn Tryz.prog num Tryz.f10 c235 = true := by kernel_rfl
theorem chk236 : chkFn Tryz.prog num Tryz.f7 c236 = true := by kernel_rfl
theorem chk239 : chkFn Tryz.prog num Tryz.f36 c239 = true := by kernel_rfl
theorem chk240 : chkFn Tryz.prog num Tryz.f32 c240 = true := by kernel_rfl
theorem chk262 : chkFn Tryz.prog num Tryz.f3 c262 = true := by kernel_rfl
theorem chk263 : chkFn Tryz.prog num Tryz.f12 c263 = true := by kernel_rfl
theorem chk264 : chkFn Tryz.prog num Tryz.f11 c264 = true := by kernel_rfl
theorem chk265 : chkFn Tryz.prog num Tryz.f9 c265 = true := by kernel_rfl
theorem chk266 : chkFn Tryz.prog num Tryz.f4 c266 = true := by kernel_rfl
theorem chk267 : chkFn Tryz.prog num Tryz.f18 c267 = true := by kernel_rfl
theorem fnsOk : ∀ k c, codeOf k = some c → ∀ f, num k = some f → ∃ fn, Tryz.prog.funcs[f]? = some fn ∧ chkFn Tryz.prog num fn c = true := by
  intro k c hk f hf
  unfold codeOf at hk
  split at hk
  · obtain rfl := Option.some.inj hk; obtain rfl : 44 = f := Option.some.inj hf; exact ⟨_, Tryz.func44, chk1⟩
  · obtain rfl := Option.some.inj hk; obtain rfl : 58 = f := Option.some.inj hf; exact ⟨_, Tryz.func58, chk2⟩
  · obtain rfl := Option.some.inj hk; obtain rfl : 13 = f := Option.some.inj hf; exact ⟨_, Tryz.func13, chk6⟩
  · obtain rfl := Option.some.inj hk; obtain rfl : 14 = f := Option.some.inj hf; exact ⟨_, Tryz.func14, chk7⟩
  · obtain rfl := Option.some.inj hk; obtain rfl : 15 = f := Option.some.inj hf; exact ⟨_, Tryz.func15, chk11⟩
  · obtain rfl := Option.some.inj hk; obtain rfl : 16 = f := Option.some.inj hf; exact ⟨_, Tryz.func16, chk12⟩
  · obtain rfl := Option.some.inj hk; obtain rfl : 43 = f := Option.some.inj hf; exact ⟨_, Tryz.func43, chk81⟩
  · obtain rfl := Option.some.inj hk; obtain rfl : 42 = f := Option.some.inj hf; exact ⟨_, Tryz.func42, chk82⟩
  · obtain rfl := Option.some.inj hk; obtain rfl : 45 = f := Option.some.inj hf; exact ⟨_, Tryz.func45, chk84⟩
  · obtain rfl := Option.some.inj hk; obtain rfl : 22 = f := Option.some.inj hf; exact ⟨_, Tryz.func22, chk85⟩
  · obtain rfl := Option.some.inj hk; obtain rfl : 54 = f := Option.some.inj hf; exact ⟨_, Tryz.func54, chk87⟩
  · obtain rfl := Option.some.inj hk; obtain rfl : 41 = f := Option.some.inj hf; exact ⟨_, Tryz.func41, chk88⟩
  · obtain rfl := Option.some.inj hk; obtain rfl : 19 = f := Option.some.inj hf; exact ⟨_, Tryz.func19, chk89⟩
  · obtain rfl := Option.some.inj hk; obtain rfl : 56 = f := Option.some.inj hf; exact ⟨_, Tryz.func56, chk90⟩
  · obtain rfl := Option.some.inj hk; obtain rfl : 17 = f := Option.some.inj hf; exact ⟨_, Tryz.func17, chk91⟩
  · obtain rfl := Option.some.inj hk; obtain rfl : 59 = f := Option.some.inj hf; exact ⟨_, Tryz.func59, chk95⟩
  · obtain rfl := Option.some.inj hk; obtain rfl : 29 = f := Option.some.inj hf; exact ⟨_, Tryz.func29, chk100⟩
  · obtain rfl := Option.some.inj hk; obtain rfl : 28 = f := Option.some.inj hf; exact ⟨_, Tryz.func28, chk101⟩
  · obtain rfl := Option.some.inj hk; obtain rfl : 30 = f := Option.some.inj hf; exact ⟨_, Tryz.func30, chk102⟩
  · obtain rfl := Option.some.inj hk; obtain rfl : 21 = f := Option.some.inj hf; exact ⟨_, Tryz.func21, chk105⟩
  · obtain rfl := Option.some.inj hk; obtain rfl : 57 = f := Option.some.inj hf; exact ⟨_, Tryz.func57, chk106⟩
  · obtain rfl := Option.some.inj hk; obtain rfl : 33 = f := Option.some.inj hf; exact ⟨_, Tryz.func33, chk118⟩
  · obtain rfl := Option.some.inj hk; obtain rfl : 31 = f := Option.some.inj hf; exact ⟨_, Tryz.func31, chk140⟩
  · obtain rfl := Option.some.inj hk; obtain rfl : 8 = f := Option.some.inj hf; exact ⟨_, Tryz.func8, chk143⟩
  · obtain rfl := Option.some.inj hk; obtain rfl : 39 = f := Option.some.inj hf; exact ⟨_, Tryz.func39, chk144⟩
  · obtain rfl := Option.some.inj hk; obtain rfl : 38 = f := Option.some.inj hf; exact ⟨_, Tryz.func38, chk145⟩
  · obtain rfl := Option.some.inj hk; obtain rfl : 55 = f := Option.some.inj hf; exact ⟨_, Tryz.func55, chk160⟩
  · obtain rfl := Option.some.inj hk; obtain rfl : 40 = f := Option.some.inj hf; exact ⟨_, Tryz.func40, chk162⟩
  · obtain rfl := Option.some.inj hk; obtain rfl : 34 = f := Option.some.inj hf; exact ⟨_, Tryz.func34, chk189⟩
  · obtain rfl := Option.some.inj hk; obtain rfl : 35 = f := Option.some.inj hf; exact ⟨_, Tryz.func35, chk194⟩
  · obtain rfl := Option.some.inj hk; obtain rfl : 6 = f := Option.some.inj hf; exact ⟨_, Tryz.func6, chk207⟩
  · obtain rfl := Option.some.inj hk; obtain rfl : 5 = f := Option.some.inj hf; exact ⟨_, Tryz.func5, chk218⟩
  · obtain rfl := Option.some.inj hk; obtain rfl : 37 = f := Option.some.inj hf; exact ⟨_, Tryz.func37, chk226⟩
  · obtain rfl := Option.some.inj hk; obtain rfl : 10 = f := Option.some.inj hf; exact ⟨_, Tryz.func10, chk235⟩
  · obtain rfl := Option.some.inj hk; obtain rfl : 7 = f := Option.some.inj hf; exact ⟨_, Tryz.func7, chk236⟩
  · obtain rfl := Option.some.inj hk; obtain rfl : 36 = f := Option.some.inj hf; exact ⟨_, Tryz.func36, chk239⟩
  · obtain rfl := Option.some.inj hk; obtain rfl : 32 = f := Option.some.inj hf; exact ⟨_, Tryz.func32, chk240⟩
  · obtain rfl := Option.some.inj hk; obtain rfl : 3 = f := Option.some.inj hf; exact ⟨_, Tryz.func3, chk262⟩
  · obtain rfl := Option.some.inj hk; obtain rfl : 12 = f := Option.some.inj hf; exact ⟨_, Tryz.func12, chk263⟩
  · obtain rfl := Option.some.inj hk; obtain rfl : 11 = f := Option.some.inj hf; exact ⟨_, Tryz.func11, chk264⟩
  · obtain rfl := Option.some.inj hk; obtain rfl : 9 = f := Option.some.inj hf; exact ⟨_, Tryz.func9, chk265⟩
  · obtain rfl := Option.some.inj hk; obtain rfl : 4 = f := Option.some.inj hf; exact ⟨_, Tryz.func4, chk266⟩
  · obtain rfl := Option.some.inj hk; obtain rfl : 18 = f := Option.some.inj hf; exact ⟨_, Tryz.func18, chk267⟩
  · cases hk
theorem tied {fz : List (Nat × Obj)} (hp : PrimsOk Tryz.prog num fz) : Tied Tryz.prog num fz P := ⟨by kernel_rfl, fnsOk, fun k f args objs r outs hn _ h => prims_contract hp k f args objs r outs hn h⟩
theorem srt : SrtAll Tryz.prog num := srtAll_none rfl
end Go.Proofs.YtaikddhcplfpmaaGreatDoor
