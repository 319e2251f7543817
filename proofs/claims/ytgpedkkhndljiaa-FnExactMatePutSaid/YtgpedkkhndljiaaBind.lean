/- That the program's functions are their abstract code: each by the kernel. -/
import Derived.Test.YtgpedkkhndljiaaB5
import Derived.Test.YtgpedkkhndljiaaCode
import Derived.Test.YtgpedkkhndljiaaSrts
import Derived.Test.YtgpedkkhndljiaaChecked
import Derived.KernelRfl
namespace Go.Proofs.Ytgpedkkhndljiaa
open Go
/-- Our numbers, and the program's. -/
def numL : List (Nat × Nat) := [(4, 8), (5, 11), (6, 27), (7, 20), (8, 5), (21, 7), (22, 10), (23, 25), (24, 18), (25, 4), (39, 14), (43, 12), (70, 9), (71, 13), (72, 6), (79, 17), (80, 24), (81, 44), (82, 49), (83, 33), (85, 47), (96, 36), (97, 16), (98, 15), (99, 43), (100, 42), (101, 19), (102, 41), (103, 23), (104, 22), (105, 26), (106, 48), (107, 32), (108, 31), (121, 21), (122, 28), (123, 35), (124, 34), (125, 38), (126, 37), (127, 57), (146, 39), (147, 40), (148, 45), (149, 46), (150, 55), (151, 56), (180, 3), (183, 30), (1183, 30), (310, 29)]
def num (k : Nat) : Option FuncId := numL.lookup k
theorem chk4 : chkFn Try.prog num Try.f8 c4 = true := by kernel_rfl
theorem chk5 : chkFn Try.prog num Try.f11 c5 = true := by kernel_rfl
theorem chk6 : chkFn Try.prog num Try.f27 c6 = true := by kernel_rfl
theorem chk7 : chkFn Try.prog num Try.f20 c7 = true := by kernel_rfl
theorem chk8 : chkFn Try.prog num Try.f5 c8 = true := by kernel_rfl
theorem chk21 : chkFn Try.prog num Try.f7 c21 = true := by kernel_rfl
theorem chk22 : chkFn Try.prog num Try.f10 c22 = true := by kernel_rfl
theorem chk23 : chkFn Try.prog num Try.f25 c23 = true := by kernel_rfl
theorem chk24 : chkFn Try.prog num Try.f18 c24 = true := by kernel_rfl
theorem chk25 : chkFn Try.prog num Try.f4 c25 = true := by kernel_rfl
theorem chk39 : chkFn Try.prog num Try.f14 c39 = true := by kernel_rfl
theorem chk43 : chkFn Try.prog num Try.f12 c43 = true := by kernel_rfl
theorem chk70 : chkFn Try.prog num Try.f9 c70 = true := by kernel_rfl
theorem chk71 : chkFn Try.prog num Try.f13 c71 = true := by kernel_rfl
theorem chk72 : chkFn Try.prog num Try.f6 c72 = true := by kernel_rfl
theorem chk79 : chkFn Try.prog num Try.f17 c79 = true := by kernel_rfl
theorem chk80 : chkFn Try.prog num Try.f24 c80 = true := by kernel_rfl
theorem chk81 : chkFn Try.prog num Try.f44 c81 = true := by kernel_rfl
theorem chk82 : chkFn Try.prog num Try.f49 c82 = true := by kernel_rfl
theorem chk83 : chkFn Try.prog num Try.f33 c83 = true := by kernel_rfl
theorem chk85 : chkFn Try.prog num Try.f47 c85 = true := by kernel_rfl
theorem chk96 : chkFn Try.prog num Try.f36 c96 = true := by kernel_rfl
theorem chk97 : chkFn Try.prog num Try.f16 c97 = true := by kernel_rfl
theorem chk98 : chkFn Try.prog num Try.f15 c98 = true := by kernel_rfl
theorem chk99 : chkFn Try.prog num Try.f43 c99 = true := by kernel_rfl
theorem chk100 : chkFn Try.prog num Try.f42 c100 = true := by kernel_rfl
theorem chk101 : chkFn Try.prog num Try.f19 c101 = true := by kernel_rfl
theorem chk102 : chkFn Try.prog num Try.f41 c102 = true := by kernel_rfl
theorem chk103 : chkFn Try.prog num Try.f23 c103 = true := by kernel_rfl
theorem chk104 : chkFn Try.prog num Try.f22 c104 = true := by kernel_rfl
theorem chk105 : chkFn Try.prog num Try.f26 c105 = true := by kernel_rfl
theorem chk106 : chkFn Try.prog num Try.f48 c106 = true := by kernel_rfl
theorem chk107 : chkFn Try.prog num Try.f32 c107 = true := by kernel_rfl
theorem chk108 : chkFn Try.prog num Try.f31 c108 = true := by kernel_rfl
theorem chk121 : chkFn Try.prog num Try.f21 c121 = true := by kernel_rfl
theorem chk122 : chkFn Try.prog num Try.f28 c122 = true := by kernel_rfl
theorem chk123 : chkFn Try.prog num Try.f35 c123 = true := by kernel_rfl
theorem chk124 : chkFn Try.prog num Try.f34 c124 = true := by kernel_rfl
theorem chk125 : chkFn Try.prog num Try.f38 c125 = true := by kernel_rfl
theorem chk126 : chkFn Try.prog num Try.f37 c126 = true := by kernel_rfl
theorem chk127 : chkFn Try.prog num Try.f57 c127 = true := by kernel_rfl
theorem chk146 : chkFn Try.prog num Try.f39 c146 = true := by kernel_rfl
theorem chk147 : chkFn Try.prog num Try.f40 c147 = true := by kernel_rfl
theorem chk148 : chkFn Try.prog num Try.f45 c148 = true := by kernel_rfl
theorem chk149 : chkFn Try.prog num Try.f46 c149 = true := by kernel_rfl
theorem chk150 : chkFn Try.prog num Try.f55 c150 = true := by kernel_rfl
theorem chk151 : chkFn Try.prog num Try.f56 c151 = true := by kernel_rfl
theorem chk180 : chkFn Try.prog num Try.f3 c180 = true := by kernel_rfl
theorem fnsOk : ∀ k c, codeOf k = some c → ∀ f, num k = some f → ∃ fn, Try.prog.funcs[f]? = some fn ∧ chkFn Try.prog num fn c = true := by
  intro k c hk f hf
  unfold codeOf at hk
  split at hk
  · obtain rfl := Option.some.inj hk; obtain rfl : 8 = f := Option.some.inj hf; exact ⟨_, Try.func8, chk4⟩
  · obtain rfl := Option.some.inj hk; obtain rfl : 11 = f := Option.some.inj hf; exact ⟨_, Try.func11, chk5⟩
  · obtain rfl := Option.some.inj hk; obtain rfl : 27 = f := Option.some.inj hf; exact ⟨_, Try.func27, chk6⟩
  · obtain rfl := Option.some.inj hk; obtain rfl : 20 = f := Option.some.inj hf; exact ⟨_, Try.func20, chk7⟩
  · obtain rfl := Option.some.inj hk; obtain rfl : 5 = f := Option.some.inj hf; exact ⟨_, Try.func5, chk8⟩
  · obtain rfl := Option.some.inj hk; obtain rfl : 7 = f := Option.some.inj hf; exact ⟨_, Try.func7, chk21⟩
  · obtain rfl := Option.some.inj hk; obtain rfl : 10 = f := Option.some.inj hf; exact ⟨_, Try.func10, chk22⟩
  · obtain rfl := Option.some.inj hk; obtain rfl : 25 = f := Option.some.inj hf; exact ⟨_, Try.func25, chk23⟩
  · obtain rfl := Option.some.inj hk; obtain rfl : 18 = f := Option.some.inj hf; exact ⟨_, Try.func18, chk24⟩
  · obtain rfl := Option.some.inj hk; obtain rfl : 4 = f := Option.some.inj hf; exact ⟨_, Try.func4, chk25⟩
  · obtain rfl := Option.some.inj hk; obtain rfl : 14 = f := Option.some.inj hf; exact ⟨_, Try.func14, chk39⟩
  · obtain rfl := Option.some.inj hk; obtain rfl : 12 = f := Option.some.inj hf; exact ⟨_, Try.func12, chk43⟩
  · obtain rfl := Option.some.inj hk; obtain rfl : 9 = f := Option.some.inj hf; exact ⟨_, Try.func9, chk70⟩
  · obtain rfl := Option.some.inj hk; obtain rfl : 13 = f := Option.some.inj hf; exact ⟨_, Try.func13, chk71⟩
  · obtain rfl := Option.some.inj hk; obtain rfl : 6 = f := Option.some.inj hf; exact ⟨_, Try.func6, chk72⟩
  · obtain rfl := Option.some.inj hk; obtain rfl : 17 = f := Option.some.inj hf; exact ⟨_, Try.func17, chk79⟩
  · obtain rfl := Option.some.inj hk; obtain rfl : 24 = f := Option.some.inj hf; exact ⟨_, Try.func24, chk80⟩
  · obtain rfl := Option.some.inj hk; obtain rfl : 44 = f := Option.some.inj hf; exact ⟨_, Try.func44, chk81⟩
  · obtain rfl := Option.some.inj hk; obtain rfl : 49 = f := Option.some.inj hf; exact ⟨_, Try.func49, chk82⟩
  · obtain rfl := Option.some.inj hk; obtain rfl : 33 = f := Option.some.inj hf; exact ⟨_, Try.func33, chk83⟩
  · obtain rfl := Option.some.inj hk; obtain rfl : 47 = f := Option.some.inj hf; exact ⟨_, Try.func47, chk85⟩
  · obtain rfl := Option.some.inj hk; obtain rfl : 36 = f := Option.some.inj hf; exact ⟨_, Try.func36, chk96⟩
  · obtain rfl := Option.some.inj hk; obtain rfl : 16 = f := Option.some.inj hf; exact ⟨_, Try.func16, chk97⟩
  · obtain rfl := Option.some.inj hk; obtain rfl : 15 = f := Option.some.inj hf; exact ⟨_, Try.func15, chk98⟩
  · obtain rfl := Option.some.inj hk; obtain rfl : 43 = f := Option.some.inj hf; exact ⟨_, Try.func43, chk99⟩
  · obtain rfl := Option.some.inj hk; obtain rfl : 42 = f := Option.some.inj hf; exact ⟨_, Try.func42, chk100⟩
  · obtain rfl := Option.some.inj hk; obtain rfl : 19 = f := Option.some.inj hf; exact ⟨_, Try.func19, chk101⟩
  · obtain rfl := Option.some.inj hk; obtain rfl : 41 = f := Option.some.inj hf; exact ⟨_, Try.func41, chk102⟩
  · obtain rfl := Option.some.inj hk; obtain rfl : 23 = f := Option.some.inj hf; exact ⟨_, Try.func23, chk103⟩
  · obtain rfl := Option.some.inj hk; obtain rfl : 22 = f := Option.some.inj hf; exact ⟨_, Try.func22, chk104⟩
  · obtain rfl := Option.some.inj hk; obtain rfl : 26 = f := Option.some.inj hf; exact ⟨_, Try.func26, chk105⟩
  · obtain rfl := Option.some.inj hk; obtain rfl : 48 = f := Option.some.inj hf; exact ⟨_, Try.func48, chk106⟩
  · obtain rfl := Option.some.inj hk; obtain rfl : 32 = f := Option.some.inj hf; exact ⟨_, Try.func32, chk107⟩
  · obtain rfl := Option.some.inj hk; obtain rfl : 31 = f := Option.some.inj hf; exact ⟨_, Try.func31, chk108⟩
  · obtain rfl := Option.some.inj hk; obtain rfl : 21 = f := Option.some.inj hf; exact ⟨_, Try.func21, chk121⟩
  · obtain rfl := Option.some.inj hk; obtain rfl : 28 = f := Option.some.inj hf; exact ⟨_, Try.func28, chk122⟩
  · obtain rfl := Option.some.inj hk; obtain rfl : 35 = f := Option.some.inj hf; exact ⟨_, Try.func35, chk123⟩
  · obtain rfl := Option.some.inj hk; obtain rfl : 34 = f := Option.some.inj hf; exact ⟨_, Try.func34, chk124⟩
  · obtain rfl := Option.some.inj hk; obtain rfl : 38 = f := Option.some.inj hf; exact ⟨_, Try.func38, chk125⟩
  · obtain rfl := Option.some.inj hk; obtain rfl : 37 = f := Option.some.inj hf; exact ⟨_, Try.func37, chk126⟩
  · obtain rfl := Option.some.inj hk; obtain rfl : 57 = f := Option.some.inj hf; exact ⟨_, Try.func57, chk127⟩
  · obtain rfl := Option.some.inj hk; obtain rfl : 39 = f := Option.some.inj hf; exact ⟨_, Try.func39, chk146⟩
  · obtain rfl := Option.some.inj hk; obtain rfl : 40 = f := Option.some.inj hf; exact ⟨_, Try.func40, chk147⟩
  · obtain rfl := Option.some.inj hk; obtain rfl : 45 = f := Option.some.inj hf; exact ⟨_, Try.func45, chk148⟩
  · obtain rfl := Option.some.inj hk; obtain rfl : 46 = f := Option.some.inj hf; exact ⟨_, Try.func46, chk149⟩
  · obtain rfl := Option.some.inj hk; obtain rfl : 55 = f := Option.some.inj hf; exact ⟨_, Try.func55, chk150⟩
  · obtain rfl := Option.some.inj hk; obtain rfl : 56 = f := Option.some.inj hf; exact ⟨_, Try.func56, chk151⟩
  · obtain rfl := Option.some.inj hk; obtain rfl : 3 = f := Option.some.inj hf; exact ⟨_, Try.func3, chk180⟩
  · cases hk
theorem tied {fz : List (Nat × Obj)} (hp : PrimsOk Try.prog num fz) : Tied Try.prog num fz P := ⟨by kernel_rfl, fnsOk, fun k f args objs r outs hn _ h => prims_contract hp k f args objs r outs hn h⟩
theorem srt : SrtAll Try.prog num := by
  refine srtAll_of fun e he f t fs h1 h2 h3 => ?_
  simp only [sortTab, List.mem_cons, List.not_mem_nil, or_false] at he
  rcases he with rfl | rfl | rfl | rfl | rfl
  · obtain rfl : 30 = f := Option.some.inj h1; obtain rfl : 30 = t := Option.some.inj h2; obtain rfl : 29 = fs := Option.some.inj h3; exact srt183
  · cases h1
  · cases h1
  · cases h1
  · cases h1
theorem prims0 : PrimsOk Try.prog num [] := primsOk_none rfl rfl rfl rfl rfl
end Go.Proofs.Ytgpedkkhndljiaa
