/- That the program's functions are their abstract code: each by the kernel. -/
import Derived.Test.YtobpliconmgbcaaTop
import Derived.Test.YtobpliconmgbcaaCode
import Derived.Test.YtobpliconmgbcaaChecked
import Derived.KernelRfl
namespace Go.Proofs.Ytobpliconmgbcaa
open Go
/-- Our numbers, and the program's. -/
def numL : List (Nat × Nat) := [(1, 12), (2, 14), (14, 5), (15, 6), (16, 4), (87, 10), (88, 11), (89, 8), (90, 9), (91, 7), (92, 13), (93, 15), (94, 16), (95, 18), (144, 17), (160, 19), (167, 3)]
def num (k : Nat) : Option FuncId := numL.lookup k
theorem chk1 : chkFn Try.prog num Try.f12 c1 = true := by kernel_rfl
theorem chk2 : chkFn Try.prog num Try.f14 c2 = true := by kernel_rfl
theorem chk14 : chkFn Try.prog num Try.f5 c14 = true := by kernel_rfl
theorem chk15 : chkFn Try.prog num Try.f6 c15 = true := by kernel_rfl
theorem chk16 : chkFn Try.prog num Try.f4 c16 = true := by kernel_rfl
theorem chk87 : chkFn Try.prog num Try.f10 c87 = true := by kernel_rfl
theorem chk88 : chkFn Try.prog num Try.f11 c88 = true := by kernel_rfl
theorem chk89 : chkFn Try.prog num Try.f8 c89 = true := by kernel_rfl
theorem chk90 : chkFn Try.prog num Try.f9 c90 = true := by kernel_rfl
theorem chk91 : chkFn Try.prog num Try.f7 c91 = true := by kernel_rfl
theorem chk92 : chkFn Try.prog num Try.f13 c92 = true := by kernel_rfl
theorem chk93 : chkFn Try.prog num Try.f15 c93 = true := by kernel_rfl
theorem chk94 : chkFn Try.prog num Try.f16 c94 = true := by kernel_rfl
theorem chk95 : chkFn Try.prog num Try.f18 c95 = true := by kernel_rfl
theorem chk144 : chkFn Try.prog num Try.f17 c144 = true := by kernel_rfl
theorem chk160 : chkFn Try.prog num Try.f19 c160 = true := by kernel_rfl
theorem chk167 : chkFn Try.prog num Try.f3 c167 = true := by kernel_rfl
theorem fnsOk : ∀ k c, codeOf k = some c → ∀ f, num k = some f → ∃ fn, Try.prog.funcs[f]? = some fn ∧ chkFn Try.prog num fn c = true := by
  intro k c hk f hf
  unfold codeOf at hk
  split at hk
  · obtain rfl := Option.some.inj hk; obtain rfl : 12 = f := Option.some.inj hf; exact ⟨_, Try.func12, chk1⟩
  · obtain rfl := Option.some.inj hk; obtain rfl : 14 = f := Option.some.inj hf; exact ⟨_, Try.func14, chk2⟩
  · obtain rfl := Option.some.inj hk; obtain rfl : 5 = f := Option.some.inj hf; exact ⟨_, Try.func5, chk14⟩
  · obtain rfl := Option.some.inj hk; obtain rfl : 6 = f := Option.some.inj hf; exact ⟨_, Try.func6, chk15⟩
  · obtain rfl := Option.some.inj hk; obtain rfl : 4 = f := Option.some.inj hf; exact ⟨_, Try.func4, chk16⟩
  · obtain rfl := Option.some.inj hk; obtain rfl : 10 = f := Option.some.inj hf; exact ⟨_, Try.func10, chk87⟩
  · obtain rfl := Option.some.inj hk; obtain rfl : 11 = f := Option.some.inj hf; exact ⟨_, Try.func11, chk88⟩
  · obtain rfl := Option.some.inj hk; obtain rfl : 8 = f := Option.some.inj hf; exact ⟨_, Try.func8, chk89⟩
  · obtain rfl := Option.some.inj hk; obtain rfl : 9 = f := Option.some.inj hf; exact ⟨_, Try.func9, chk90⟩
  · obtain rfl := Option.some.inj hk; obtain rfl : 7 = f := Option.some.inj hf; exact ⟨_, Try.func7, chk91⟩
  · obtain rfl := Option.some.inj hk; obtain rfl : 13 = f := Option.some.inj hf; exact ⟨_, Try.func13, chk92⟩
  · obtain rfl := Option.some.inj hk; obtain rfl : 15 = f := Option.some.inj hf; exact ⟨_, Try.func15, chk93⟩
  · obtain rfl := Option.some.inj hk; obtain rfl : 16 = f := Option.some.inj hf; exact ⟨_, Try.func16, chk94⟩
  · obtain rfl := Option.some.inj hk; obtain rfl : 18 = f := Option.some.inj hf; exact ⟨_, Try.func18, chk95⟩
  · obtain rfl := Option.some.inj hk; obtain rfl : 17 = f := Option.some.inj hf; exact ⟨_, Try.func17, chk144⟩
  · obtain rfl := Option.some.inj hk; obtain rfl : 19 = f := Option.some.inj hf; exact ⟨_, Try.func19, chk160⟩
  · obtain rfl := Option.some.inj hk; obtain rfl : 3 = f := Option.some.inj hf; exact ⟨_, Try.func3, chk167⟩
  · cases hk
theorem tied : Tied Try.prog num P := ⟨by kernel_rfl, fnsOk, fun k f args objs r outs _ _ h => (nomatch h)⟩
end Go.Proofs.Ytobpliconmgbcaa
