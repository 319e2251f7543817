/- That the program's functions are their abstract code: each by the kernel. -/
import Derived.Test.YtpicbkaloefjeaaTop
import Derived.Test.YtpicbkaloefjeaaCode
import Derived.Test.YtpicbkaloefjeaaChecked
import Derived.KernelRfl
namespace Go.Proofs.Ytpicbkaloefjeaa
open Go
/-- Our numbers, and the program's. -/
def numL : List (Nat × Nat) := [(0, 14), (1, 15), (2, 12), (3, 11), (9, 6), (10, 8), (13, 4), (17, 10), (18, 7), (19, 9), (20, 5), (79, 18), (80, 19), (83, 20), (86, 16), (95, 13), (96, 17), (168, 3)]
def num (k : Nat) : Option FuncId := numL.lookup k
theorem chk0 : chkFn Try.prog num Try.f14 c0 = true := by kernel_rfl
theorem chk1 : chkFn Try.prog num Try.f15 c1 = true := by kernel_rfl
theorem chk2 : chkFn Try.prog num Try.f12 c2 = true := by kernel_rfl
theorem chk3 : chkFn Try.prog num Try.f11 c3 = true := by kernel_rfl
theorem chk9 : chkFn Try.prog num Try.f6 c9 = true := by kernel_rfl
theorem chk10 : chkFn Try.prog num Try.f8 c10 = true := by kernel_rfl
theorem chk13 : chkFn Try.prog num Try.f4 c13 = true := by kernel_rfl
theorem chk17 : chkFn Try.prog num Try.f10 c17 = true := by kernel_rfl
theorem chk18 : chkFn Try.prog num Try.f7 c18 = true := by kernel_rfl
theorem chk19 : chkFn Try.prog num Try.f9 c19 = true := by kernel_rfl
theorem chk20 : chkFn Try.prog num Try.f5 c20 = true := by kernel_rfl
theorem chk79 : chkFn Try.prog num Try.f18 c79 = true := by kernel_rfl
theorem chk80 : chkFn Try.prog num Try.f19 c80 = true := by kernel_rfl
theorem chk83 : chkFn Try.prog num Try.f20 c83 = true := by kernel_rfl
theorem chk86 : chkFn Try.prog num Try.f16 c86 = true := by kernel_rfl
theorem chk95 : chkFn Try.prog num Try.f13 c95 = true := by kernel_rfl
theorem chk96 : chkFn Try.prog num Try.f17 c96 = true := by kernel_rfl
theorem chk168 : chkFn Try.prog num Try.f3 c168 = true := by kernel_rfl
theorem fnsOk : ∀ k c, codeOf k = some c → ∀ f, num k = some f → ∃ fn, Try.prog.funcs[f]? = some fn ∧ chkFn Try.prog num fn c = true := by
  intro k c hk f hf
  unfold codeOf at hk
  split at hk
  · obtain rfl := Option.some.inj hk; obtain rfl : 14 = f := Option.some.inj hf; exact ⟨_, Try.func14, chk0⟩
  · obtain rfl := Option.some.inj hk; obtain rfl : 15 = f := Option.some.inj hf; exact ⟨_, Try.func15, chk1⟩
  · obtain rfl := Option.some.inj hk; obtain rfl : 12 = f := Option.some.inj hf; exact ⟨_, Try.func12, chk2⟩
  · obtain rfl := Option.some.inj hk; obtain rfl : 11 = f := Option.some.inj hf; exact ⟨_, Try.func11, chk3⟩
  · obtain rfl := Option.some.inj hk; obtain rfl : 6 = f := Option.some.inj hf; exact ⟨_, Try.func6, chk9⟩
  · obtain rfl := Option.some.inj hk; obtain rfl : 8 = f := Option.some.inj hf; exact ⟨_, Try.func8, chk10⟩
  · obtain rfl := Option.some.inj hk; obtain rfl : 4 = f := Option.some.inj hf; exact ⟨_, Try.func4, chk13⟩
  · obtain rfl := Option.some.inj hk; obtain rfl : 10 = f := Option.some.inj hf; exact ⟨_, Try.func10, chk17⟩
  · obtain rfl := Option.some.inj hk; obtain rfl : 7 = f := Option.some.inj hf; exact ⟨_, Try.func7, chk18⟩
  · obtain rfl := Option.some.inj hk; obtain rfl : 9 = f := Option.some.inj hf; exact ⟨_, Try.func9, chk19⟩
  · obtain rfl := Option.some.inj hk; obtain rfl : 5 = f := Option.some.inj hf; exact ⟨_, Try.func5, chk20⟩
  · obtain rfl := Option.some.inj hk; obtain rfl : 18 = f := Option.some.inj hf; exact ⟨_, Try.func18, chk79⟩
  · obtain rfl := Option.some.inj hk; obtain rfl : 19 = f := Option.some.inj hf; exact ⟨_, Try.func19, chk80⟩
  · obtain rfl := Option.some.inj hk; obtain rfl : 20 = f := Option.some.inj hf; exact ⟨_, Try.func20, chk83⟩
  · obtain rfl := Option.some.inj hk; obtain rfl : 16 = f := Option.some.inj hf; exact ⟨_, Try.func16, chk86⟩
  · obtain rfl := Option.some.inj hk; obtain rfl : 13 = f := Option.some.inj hf; exact ⟨_, Try.func13, chk95⟩
  · obtain rfl := Option.some.inj hk; obtain rfl : 17 = f := Option.some.inj hf; exact ⟨_, Try.func17, chk96⟩
  · obtain rfl := Option.some.inj hk; obtain rfl : 3 = f := Option.some.inj hf; exact ⟨_, Try.func3, chk168⟩
  · cases hk
theorem tied : Tied Try.prog num P := ⟨by kernel_rfl, fnsOk, fun k f args objs r outs _ _ h => (nomatch h)⟩
end Go.Proofs.Ytpicbkaloefjeaa
