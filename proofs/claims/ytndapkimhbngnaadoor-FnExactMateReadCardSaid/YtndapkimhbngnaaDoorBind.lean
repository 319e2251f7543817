/- That the program's functions are their abstract code: each by the kernel. -/
import Derived.Test.YtndapkimhbngnaaDoorB6
import Derived.Test.YtndapkimhbngnaaDoorCode
import Derived.Test.YtndapkimhbngnaaDoorChecked
import Derived.KernelRfl
namespace Go.Proofs.YtndapkimhbngnaaDoor
open Go
/-- Our numbers, and the program's. -/
def numL : List (Nat × Nat) := [(5, 18), (6, 34), (7, 25), (62, 7), (63, 6), (71, 19), (81, 38), (82, 48), (83, 36), (85, 33), (96, 37), (100, 23), (101, 22), (102, 24), (105, 32), (106, 60), (127, 20), (140, 21), (194, 9), (207, 5), (218, 17), (226, 11), (235, 4), (236, 12), (239, 10), (240, 26), (260, 3), (261, 8), (222, 13), (220, 14), (230, 35), (231, 31), (221, 15)]
def num (k : Nat) : Option FuncId := numL.lookup k
theorem chk5 : chkFn Tryd.prog num Tryd.f18 c5 = true := by kernel_rfl
theorem chk6 : chkFn Tryd.prog num Tryd.f34 c6 = true := by kernel_rfl
theorem chk7 : chkFn Tryd.prog num Tryd.f25 c7 = true := by kernel_rfl
theorem chk62 : chkFn Tryd.prog num Tryd.f7 c62 = true := by kernel_rfl
theorem chk63 : chkFn Tryd.prog num Tryd.f6 c63 = true := by kernel_rfl
theorem chk71 : chkFn Tryd.prog num Tryd.f19 c71 = true := by kernel_rfl
theorem chk81 : chkFn Tryd.prog num Tryd.f38 c81 = true := by kernel_rfl
theorem chk82 : chkFn Tryd.prog num Tryd.f48 c82 = true := by kernel_rfl
theorem chk83 : chkFn Tryd.prog num Tryd.f36 c83 = true := by kernel_rfl
theorem chk85 : chkFn Tryd.prog num Tryd.f33 c85 = true := by kernel_rfl
theorem chk96 : chkFn Tryd.prog num Tryd.f37 c96 = true := by kernel_rfl
theorem chk100 : chkFn Tryd.prog num Tryd.f23 c100 = true := by kernel_rfl
theorem chk101 : chkFn Tryd.prog num Tryd.f22 c101 = true := by kernel_rfl
theorem chk102 : chkFn Tryd.prog num Tryd.f24 c102 = true := by kernel_rfl
theorem chk105 : chkFn Tryd.prog num Tryd.f32 c105 = true := by kernel_rfl
theorem chk106 : chkFn Tryd.prog num Tryd.f60 c106 = true := by kernel_rfl
theorem chk127 : chkFn Tryd.prog num Tryd.f20 c127 = true := by kernel_rfl
theorem chk140 : chkFn Tryd.prog num Tryd.f21 c140 = true := by kernel_rfl
theorem chk194 : chkFn Tryd.prog num Tryd.f9 c194 = true := by kernel_rfl
theorem chk207 : chkFn Tryd.prog num Tryd.f5 c207 = true := by kernel_rfl
theorem chk218 : chkFn Tryd.prog num Tryd.f17 c218 = true := by kernel_rfl
theorem chk226 : chkFn Tryd.prog num Tryd.f11 c226 = true := by kernel_rfl
theorem chk235 : chkFn Tryd.prog num Tryd.f4 c235 = true := by kernel_rfl
theorem chk236 : chkFn Tryd.prog num Tryd.f12 c236 = true := by kernel_rfl
theorem chk239 : chkFn Tryd.prog num Tryd.f10 c239 = true := by kernel_rfl
theorem chk240 : chkFn Tryd.prog num Tryd.f26 c240 = true := by kernel_rfl
theorem chk260 : chkFn Tryd.prog num Tryd.f3 c260 = true := by kernel_rfl
theorem chk261 : chkFn Tryd.prog num Tryd.f8 c261 = true := by kernel_rfl
theorem fnsOk : ∀ k c, codeOf k = some c → ∀ f, num k = some f → ∃ fn, Tryd.prog.funcs[f]? = some fn ∧ chkFn Tryd.prog num fn c = true := by
  intro k c hk f hf
  unfold codeOf at hk
  split at hk
  · obtain rfl := Option.some.inj hk; obtain rfl : 18 = f := Option.some.inj hf; exact ⟨_, Tryd.func18, chk5⟩
  · obtain rfl := Option.some.inj hk; obtain rfl : 34 = f := Option.some.inj hf; exact ⟨_, Tryd.func34, chk6⟩
  · obtain rfl := Option.some.inj hk; obtain rfl : 25 = f := Option.some.inj hf; exact ⟨_, Tryd.func25, chk7⟩
  · obtain rfl := Option.some.inj hk; obtain rfl : 7 = f := Option.some.inj hf; exact ⟨_, Tryd.func7, chk62⟩
  · obtain rfl := Option.some.inj hk; obtain rfl : 6 = f := Option.some.inj hf; exact ⟨_, Tryd.func6, chk63⟩
  · obtain rfl := Option.some.inj hk; obtain rfl : 19 = f := Option.some.inj hf; exact ⟨_, Tryd.func19, chk71⟩
  · obtain rfl := Option.some.inj hk; obtain rfl : 38 = f := Option.some.inj hf; exact ⟨_, Tryd.func38, chk81⟩
  · obtain rfl := Option.some.inj hk; obtain rfl : 48 = f := Option.some.inj hf; exact ⟨_, Tryd.func48, chk82⟩
  · obtain rfl := Option.some.inj hk; obtain rfl : 36 = f := Option.some.inj hf; exact ⟨_, Tryd.func36, chk83⟩
  · obtain rfl := Option.some.inj hk; obtain rfl : 33 = f := Option.some.inj hf; exact ⟨_, Tryd.func33, chk85⟩
  · obtain rfl := Option.some.inj hk; obtain rfl : 37 = f := Option.some.inj hf; exact ⟨_, Tryd.func37, chk96⟩
  · obtain rfl := Option.some.inj hk; obtain rfl : 23 = f := Option.some.inj hf; exact ⟨_, Tryd.func23, chk100⟩
  · obtain rfl := Option.some.inj hk; obtain rfl : 22 = f := Option.some.inj hf; exact ⟨_, Tryd.func22, chk101⟩
  · obtain rfl := Option.some.inj hk; obtain rfl : 24 = f := Option.some.inj hf; exact ⟨_, Tryd.func24, chk102⟩
  · obtain rfl := Option.some.inj hk; obtain rfl : 32 = f := Option.some.inj hf; exact ⟨_, Tryd.func32, chk105⟩
  · obtain rfl := Option.some.inj hk; obtain rfl : 60 = f := Option.some.inj hf; exact ⟨_, Tryd.func60, chk106⟩
  · obtain rfl := Option.some.inj hk; obtain rfl : 20 = f := Option.some.inj hf; exact ⟨_, Tryd.func20, chk127⟩
  · obtain rfl := Option.some.inj hk; obtain rfl : 21 = f := Option.some.inj hf; exact ⟨_, Tryd.func21, chk140⟩
  · obtain rfl := Option.some.inj hk; obtain rfl : 9 = f := Option.some.inj hf; exact ⟨_, Tryd.func9, chk194⟩
  · obtain rfl := Option.some.inj hk; obtain rfl : 5 = f := Option.some.inj hf; exact ⟨_, Tryd.func5, chk207⟩
  · obtain rfl := Option.some.inj hk; obtain rfl : 17 = f := Option.some.inj hf; exact ⟨_, Tryd.func17, chk218⟩
  · obtain rfl := Option.some.inj hk; obtain rfl : 11 = f := Option.some.inj hf; exact ⟨_, Tryd.func11, chk226⟩
  · obtain rfl := Option.some.inj hk; obtain rfl : 4 = f := Option.some.inj hf; exact ⟨_, Tryd.func4, chk235⟩
  · obtain rfl := Option.some.inj hk; obtain rfl : 12 = f := Option.some.inj hf; exact ⟨_, Tryd.func12, chk236⟩
  · obtain rfl := Option.some.inj hk; obtain rfl : 10 = f := Option.some.inj hf; exact ⟨_, Tryd.func10, chk239⟩
  · obtain rfl := Option.some.inj hk; obtain rfl : 26 = f := Option.some.inj hf; exact ⟨_, Tryd.func26, chk240⟩
  · obtain rfl := Option.some.inj hk; obtain rfl : 3 = f := Option.some.inj hf; exact ⟨_, Tryd.func3, chk260⟩
  · obtain rfl := Option.some.inj hk; obtain rfl : 8 = f := Option.some.inj hf; exact ⟨_, Tryd.func8, chk261⟩
  · cases hk
theorem tied {fz : List (Nat × Obj)} (hp : PrimsOk Tryd.prog num fz) : Tied Tryd.prog num fz P := ⟨by kernel_rfl, fnsOk, fun k f args objs r outs hn _ h => prims_contract hp k f args objs r outs hn h⟩
theorem srt : SrtAll Tryd.prog num := srtAll_none rfl
end Go.Proofs.YtndapkimhbngnaaDoor
