/- That the program's functions are their abstract code: each by the kernel. -/
import Derived.Test.YthncjlbkncmekaaDoorB5
import Derived.Test.YthncjlbkncmekaaDoorCode
import Derived.Test.YthncjlbkncmekaaDoorChecked
import Derived.KernelRfl
namespace Go.Proofs.YthncjlbkncmekaaDoor
open Go
/-- Our numbers, and the program's. -/
def numL : List (Nat × Nat) := [(4, 16), (5, 22), (6, 20), (7, 13), (8, 9), (60, 6), (63, 8), (65, 4), (79, 23), (80, 25), (81, 24), (82, 27), (83, 31), (85, 19), (100, 11), (101, 10), (102, 12), (105, 18), (106, 33), (140, 14), (218, 7), (236, 5), (240, 15), (259, 3), (230, 21), (231, 17)]
def num (k : Nat) : Option FuncId := numL.lookup k
theorem chk4 : chkFn Tryd.prog num Tryd.f16 c4 = true := by kernel_rfl
theorem chk5 : chkFn Tryd.prog num Tryd.f22 c5 = true := by kernel_rfl
theorem chk6 : chkFn Tryd.prog num Tryd.f20 c6 = true := by kernel_rfl
theorem chk7 : chkFn Tryd.prog num Tryd.f13 c7 = true := by kernel_rfl
theorem chk8 : chkFn Tryd.prog num Tryd.f9 c8 = true := by kernel_rfl
theorem chk60 : chkFn Tryd.prog num Tryd.f6 c60 = true := by kernel_rfl
theorem chk63 : chkFn Tryd.prog num Tryd.f8 c63 = true := by kernel_rfl
theorem chk65 : chkFn Tryd.prog num Tryd.f4 c65 = true := by kernel_rfl
theorem chk79 : chkFn Tryd.prog num Tryd.f23 c79 = true := by kernel_rfl
theorem chk80 : chkFn Tryd.prog num Tryd.f25 c80 = true := by kernel_rfl
theorem chk81 : chkFn Tryd.prog num Tryd.f24 c81 = true := by kernel_rfl
theorem chk82 : chkFn Tryd.prog num Tryd.f27 c82 = true := by kernel_rfl
theorem chk83 : chkFn Tryd.prog num Tryd.f31 c83 = true := by kernel_rfl
theorem chk85 : chkFn Tryd.prog num Tryd.f19 c85 = true := by kernel_rfl
theorem chk100 : chkFn Tryd.prog num Tryd.f11 c100 = true := by kernel_rfl
theorem chk101 : chkFn Tryd.prog num Tryd.f10 c101 = true := by kernel_rfl
theorem chk102 : chkFn Tryd.prog num Tryd.f12 c102 = true := by kernel_rfl
theorem chk105 : chkFn Tryd.prog num Tryd.f18 c105 = true := by kernel_rfl
theorem chk106 : chkFn Tryd.prog num Tryd.f33 c106 = true := by kernel_rfl
theorem chk140 : chkFn Tryd.prog num Tryd.f14 c140 = true := by kernel_rfl
theorem chk218 : chkFn Tryd.prog num Tryd.f7 c218 = true := by kernel_rfl
theorem chk236 : chkFn Tryd.prog num Tryd.f5 c236 = true := by kernel_rfl
theorem chk240 : chkFn Tryd.prog num Tryd.f15 c240 = true := by kernel_rfl
theorem chk259 : chkFn Tryd.prog num Tryd.f3 c259 = true := by kernel_rfl
theorem fnsOk : ∀ k c, codeOf k = some c → ∀ f, num k = some f → ∃ fn, Tryd.prog.funcs[f]? = some fn ∧ chkFn Tryd.prog num fn c = true := by
  intro k c hk f hf
  unfold codeOf at hk
  split at hk
  · obtain rfl := Option.some.inj hk; obtain rfl : 16 = f := Option.some.inj hf; exact ⟨_, Tryd.func16, chk4⟩
  · obtain rfl := Option.some.inj hk; obtain rfl : 22 = f := Option.some.inj hf; exact ⟨_, Tryd.func22, chk5⟩
  · obtain rfl := Option.some.inj hk; obtain rfl : 20 = f := Option.some.inj hf; exact ⟨_, Tryd.func20, chk6⟩
  · obtain rfl := Option.some.inj hk; obtain rfl : 13 = f := Option.some.inj hf; exact ⟨_, Tryd.func13, chk7⟩
  · obtain rfl := Option.some.inj hk; obtain rfl : 9 = f := Option.some.inj hf; exact ⟨_, Tryd.func9, chk8⟩
  · obtain rfl := Option.some.inj hk; obtain rfl : 6 = f := Option.some.inj hf; exact ⟨_, Tryd.func6, chk60⟩
  · obtain rfl := Option.some.inj hk; obtain rfl : 8 = f := Option.some.inj hf; exact ⟨_, Tryd.func8, chk63⟩
  · obtain rfl := Option.some.inj hk; obtain rfl : 4 = f := Option.some.inj hf; exact ⟨_, Tryd.func4, chk65⟩
  · obtain rfl := Option.some.inj hk; obtain rfl : 23 = f := Option.some.inj hf; exact ⟨_, Tryd.func23, chk79⟩
  · obtain rfl := Option.some.inj hk; obtain rfl : 25 = f := Option.some.inj hf; exact ⟨_, Tryd.func25, chk80⟩
  · obtain rfl := Option.some.inj hk; obtain rfl : 24 = f := Option.some.inj hf; exact ⟨_, Tryd.func24, chk81⟩
  · obtain rfl := Option.some.inj hk; obtain rfl : 27 = f := Option.some.inj hf; exact ⟨_, Tryd.func27, chk82⟩
  · obtain rfl := Option.some.inj hk; obtain rfl : 31 = f := Option.some.inj hf; exact ⟨_, Tryd.func31, chk83⟩
  · obtain rfl := Option.some.inj hk; obtain rfl : 19 = f := Option.some.inj hf; exact ⟨_, Tryd.func19, chk85⟩
  · obtain rfl := Option.some.inj hk; obtain rfl : 11 = f := Option.some.inj hf; exact ⟨_, Tryd.func11, chk100⟩
  · obtain rfl := Option.some.inj hk; obtain rfl : 10 = f := Option.some.inj hf; exact ⟨_, Tryd.func10, chk101⟩
  · obtain rfl := Option.some.inj hk; obtain rfl : 12 = f := Option.some.inj hf; exact ⟨_, Tryd.func12, chk102⟩
  · obtain rfl := Option.some.inj hk; obtain rfl : 18 = f := Option.some.inj hf; exact ⟨_, Tryd.func18, chk105⟩
  · obtain rfl := Option.some.inj hk; obtain rfl : 33 = f := Option.some.inj hf; exact ⟨_, Tryd.func33, chk106⟩
  · obtain rfl := Option.some.inj hk; obtain rfl : 14 = f := Option.some.inj hf; exact ⟨_, Tryd.func14, chk140⟩
  · obtain rfl := Option.some.inj hk; obtain rfl : 7 = f := Option.some.inj hf; exact ⟨_, Tryd.func7, chk218⟩
  · obtain rfl := Option.some.inj hk; obtain rfl : 5 = f := Option.some.inj hf; exact ⟨_, Tryd.func5, chk236⟩
  · obtain rfl := Option.some.inj hk; obtain rfl : 15 = f := Option.some.inj hf; exact ⟨_, Tryd.func15, chk240⟩
  · obtain rfl := Option.some.inj hk; obtain rfl : 3 = f := Option.some.inj hf; exact ⟨_, Tryd.func3, chk259⟩
  · cases hk
theorem tied {fz : List (Nat × Obj)} (hp : PrimsOk Tryd.prog num fz) : Tied Tryd.prog num fz P := ⟨by kernel_rfl, fnsOk, fun k f args objs r outs hn _ h => prims_contract hp k f args objs r outs hn h⟩
theorem srt : SrtAll Tryd.prog num := srtAll_none rfl
end Go.Proofs.YthncjlbkncmekaaDoor
