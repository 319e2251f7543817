/- That the program's functions are their abstract code: each by the kernel. -/
import Derived.Test.YtgdjnflnfeakjaaB7
import Derived.Test.YtgdjnflnfeakjaaCode
import Derived.Test.YtgdjnflnfeakjaaSrts
import Derived.Test.YtgdjnflnfeakjaaChecked
import Derived.KernelRfl
namespace Go.Proofs.Ytgdjnflnfeakjaa
open Go
set_option maxRecDepth 100000
/-- Our numbers, and the program's. -/
def numL : List (Nat × Nat) := [(6, 36), (7, 40), (23, 12), (24, 11), (41, 9), (44, 10), (70, 14), (72, 15), (73, 7), (74, 13), (75, 8), (76, 5), (77, 6), (78, 4), (81, 52), (82, 49), (85, 24), (87, 50), (89, 18), (91, 16), (99, 35), (100, 30), (101, 29), (102, 31), (105, 22), (106, 23), (118, 33), (121, 28), (122, 21), (139, 20), (140, 19), (141, 17), (142, 32), (143, 34), (144, 38), (145, 37), (157, 42), (158, 41), (159, 48), (160, 51), (181, 3), (182, 25), (183, 39), (1183, 24), (184, 27), (1184, 23), (310, 26)]
def num (k : Nat) : Option FuncId := numL.lookup k
theorem chk6 : chkFn Try.prog num Try.f36 c6 = true := by kernel_rfl
theorem chk7 : chkFn Try.prog num Try.f40 c7 = true := by kernel_rfl
theorem chk23 : chkFn Try.prog num Try.f12 c23 = true := by kernel_rfl
theorem chk24 : chkFn Try.prog num Try.f11 c24 = true := by kernel_rfl
theorem chk41 : chkFn Try.prog num Try.f9 c41 = true := by kernel_rfl
theorem chk44 : chkFn Try.prog num Try.f10 c44 = true := by kernel_rfl
theorem chk70 : chkFn Try.prog num Try.f14 c70 = true := by kernel_rfl
theorem chk72 : chkFn Try.prog num Try.f15 c72 = true := by kernel_rfl
theorem chk73 : chkFn Try.prog num Try.f7 c73 = true := by kernel_rfl
theorem chk74 : chkFn Try.prog num Try.f13 c74 = true := by kernel_rfl
theorem chk75 : chkFn Try.prog num Try.f8 c75 = true := by kernel_rfl
theorem chk76 : chkFn Try.prog num Try.f5 c76 = true := by kernel_rfl
theorem chk77 : chkFn Try.prog num Try.f6 c77 = true := by kernel_rfl
theorem chk78 : chkFn Try.prog num Try.f4 c78 = true := by kernel_rfl
theorem chk81 : chkFn Try.prog num Try.f52 c81 = true := by kernel_rfl
theorem chk82 : chkFn Try.prog num Try.f49 c82 = true := by kernel_rfl
theorem chk85 : chkFn Try.prog num Try.f24 c85 = true := by kernel_rfl
theorem chk87 : chkFn Try.prog num Try.f50 c87 = true := by kernel_rfl
theorem chk89 : chkFn Try.prog num Try.f18 c89 = true := by kernel_rfl
theorem chk91 : chkFn Try.prog num Try.f16 c91 = true := by kernel_rfl
theorem chk99 : chkFn Try.prog num Try.f35 c99 = true := by kernel_rfl
theorem chk100 : chkFn Try.prog num Try.f30 c100 = true := by kernel_rfl
theorem chk101 : chkFn Try.prog num Try.f29 c101 = true := by kernel_rfl
theorem chk102 : chkFn Try.prog num Try.f31 c102 = true := by kernel_rfl
theorem chk105 : chkFn Try.prog num Try.f22 c105 = true := by kernel_rfl
theorem chk106 : chkFn Try.prog num Try.f23 c106 = true := by kernel_rfl
theorem chk118 : chkFn Try.prog num Try.f33 c118 = true := by kernel_rfl
theorem chk121 : chkFn Try.prog num Try.f28 c121 = true := by kernel_rfl
theorem chk122 : chkFn Try.prog num Try.f21 c122 = true := by kernel_rfl
theorem chk139 : chkFn Try.prog num Try.f20 c139 = true := by kernel_rfl
theorem chk140 : chkFn Try.prog num Try.f19 c140 = true := by kernel_rfl
theorem chk141 : chkFn Try.prog num Try.f17 c141 = true := by kernel_rfl
theorem chk142 : chkFn Try.prog num Try.f32 c142 = true := by kernel_rfl
theorem chk143 : chkFn Try.prog num Try.f34 c143 = true := by kernel_rfl
theorem chk144 : chkFn Try.prog num Try.f38 c144 = true := by kernel_rfl
theorem chk145 : chkFn Try.prog num Try.f37 c145 = true := by kernel_rfl
theorem chk157 : chkFn Try.prog num Try.f42 c157 = true := by kernel_rfl
theorem chk158 : chkFn Try.prog num Try.f41 c158 = true := by kernel_rfl
theorem chk159 : chkFn Try.prog num Try.f48 c159 = true := by kernel_rfl
theorem chk160 : chkFn Try.prog num Try.f51 c160 = true := by kernel_rfl
theorem chk181 : chkFn Try.prog num Try.f3 c181 = true := by kernel_rfl
theorem chk182 : chkFn Try.prog num Try.f25 c182 = true := by kernel_rfl
theorem fnsOk : ∀ k c, codeOf k = some c → ∀ f, num k = some f → ∃ fn, Try.prog.funcs[f]? = some fn ∧ chkFn Try.prog num fn c = true := by
  intro k c hk f hf
  unfold codeOf at hk
  split at hk
  · obtain rfl := Option.some.inj hk; obtain rfl : 36 = f := Option.some.inj hf; exact ⟨_, Try.func36, chk6⟩
  · obtain rfl := Option.some.inj hk; obtain rfl : 40 = f := Option.some.inj hf; exact ⟨_, Try.func40, chk7⟩
  · obtain rfl := Option.some.inj hk; obtain rfl : 12 = f := Option.some.inj hf; exact ⟨_, Try.func12, chk23⟩
  · obtain rfl := Option.some.inj hk; obtain rfl : 11 = f := Option.some.inj hf; exact ⟨_, Try.func11, chk24⟩
  · obtain rfl := Option.some.inj hk; obtain rfl : 9 = f := Option.some.inj hf; exact ⟨_, Try.func9, chk41⟩
  · obtain rfl := Option.some.inj hk; obtain rfl : 10 = f := Option.some.inj hf; exact ⟨_, Try.func10, chk44⟩
  · obtain rfl := Option.some.inj hk; obtain rfl : 14 = f := Option.some.inj hf; exact ⟨_, Try.func14, chk70⟩
  · obtain rfl := Option.some.inj hk; obtain rfl : 15 = f := Option.some.inj hf; exact ⟨_, Try.func15, chk72⟩
  · obtain rfl := Option.some.inj hk; obtain rfl : 7 = f := Option.some.inj hf; exact ⟨_, Try.func7, chk73⟩
  · obtain rfl := Option.some.inj hk; obtain rfl : 13 = f := Option.some.inj hf; exact ⟨_, Try.func13, chk74⟩
  · obtain rfl := Option.some.inj hk; obtain rfl : 8 = f := Option.some.inj hf; exact ⟨_, Try.func8, chk75⟩
  · obtain rfl := Option.some.inj hk; obtain rfl : 5 = f := Option.some.inj hf; exact ⟨_, Try.func5, chk76⟩
  · obtain rfl := Option.some.inj hk; obtain rfl : 6 = f := Option.some.inj hf; exact ⟨_, Try.func6, chk77⟩
  · obtain rfl := Option.some.inj hk; obtain rfl : 4 = f := Option.some.inj hf; exact ⟨_, Try.func4, chk78⟩
  · obtain rfl := Option.some.inj hk; obtain rfl : 52 = f := Option.some.inj hf; exact ⟨_, Try.func52, chk81⟩
  · obtain rfl := Option.some.inj hk; obtain rfl : 49 = f := Option.some.inj hf; exact ⟨_, Try.func49, chk82⟩
  · obtain rfl := Option.some.inj hk; obtain rfl : 24 = f := Option.some.inj hf; exact ⟨_, Try.func24, chk85⟩
  · obtain rfl := Option.some.inj hk; obtain rfl : 50 = f := Option.some.inj hf; exact ⟨_, Try.func50, chk87⟩
  · obtain rfl := Option.some.inj hk; obtain rfl : 18 = f := Option.some.inj hf; exact ⟨_, Try.func18, chk89⟩
  · obtain rfl := Option.some.inj hk; obtain rfl : 16 = f := Option.some.inj hf; exact ⟨_, Try.func16, chk91⟩
  · obtain rfl := Option.some.inj hk; obtain rfl : 35 = f := Option.some.inj hf; exact ⟨_, Try.func35, chk99⟩
  · obtain rfl := Option.some.inj hk; obtain rfl : 30 = f := Option.some.inj hf; exact ⟨_, Try.func30, chk100⟩
  · obtain rfl := Option.some.inj hk; obtain rfl : 29 = f := Option.some.inj hf; exact ⟨_, Try.func29, chk101⟩
  · obtain rfl := Option.some.inj hk; obtain rfl : 31 = f := Option.some.inj hf; exact ⟨_, Try.func31, chk102⟩
  · obtain rfl := Option.some.inj hk; obtain rfl : 22 = f := Option.some.inj hf; exact ⟨_, Try.func22, chk105⟩
  · obtain rfl := Option.some.inj hk; obtain rfl : 23 = f := Option.some.inj hf; exact ⟨_, Try.func23, chk106⟩
  · obtain rfl := Option.some.inj hk; obtain rfl : 33 = f := Option.some.inj hf; exact ⟨_, Try.func33, chk118⟩
  · obtain rfl := Option.some.inj hk; obtain rfl : 28 = f := Option.some.inj hf; exact ⟨_, Try.func28, chk121⟩
  · obtain rfl := Option.some.inj hk; obtain rfl : 21 = f := Option.some.inj hf; exact ⟨_, Try.func21, chk122⟩
  · obtain rfl := Option.some.inj hk; obtain rfl : 20 = f := Option.some.inj hf; exact ⟨_, Try.func20, chk139⟩
  · obtain rfl := Option.some.inj hk; obtain rfl : 19 = f := Option.some.inj hf; exact ⟨_, Try.func19, chk140⟩
  · obtain rfl := Option.some.inj hk; obtain rfl : 17 = f := Option.some.inj hf; exact ⟨_, Try.func17, chk141⟩
  · obtain rfl := Option.some.inj hk; obtain rfl : 32 = f := Option.some.inj hf; exact ⟨_, Try.func32, chk142⟩
  · obtain rfl := Option.some.inj hk; obtain rfl : 34 = f := Option.some.inj hf; exact ⟨_, Try.func34, chk143⟩
  · obtain rfl := Option.some.inj hk; obtain rfl : 38 = f := Option.some.inj hf; exact ⟨_, Try.func38, chk144⟩
  · obtain rfl := Option.some.inj hk; obtain rfl : 37 = f := Option.some.inj hf; exact ⟨_, Try.func37, chk145⟩
  · obtain rfl := Option.some.inj hk; obtain rfl : 42 = f := Option.some.inj hf; exact ⟨_, Try.func42, chk157⟩
  · obtain rfl := Option.some.inj hk; obtain rfl : 41 = f := Option.some.inj hf; exact ⟨_, Try.func41, chk158⟩
  · obtain rfl := Option.some.inj hk; obtain rfl : 48 = f := Option.some.inj hf; exact ⟨_, Try.func48, chk159⟩
  · obtain rfl := Option.some.inj hk; obtain rfl : 51 = f := Option.some.inj hf; exact ⟨_, Try.func51, chk160⟩
  · obtain rfl := Option.some.inj hk; obtain rfl : 3 = f := Option.some.inj hf; exact ⟨_, Try.func3, chk181⟩
  · obtain rfl := Option.some.inj hk; obtain rfl : 25 = f := Option.some.inj hf; exact ⟨_, Try.func25, chk182⟩
  · cases hk
theorem tied {fz : List (Nat × Obj)} (hp : PrimsOk Try.prog num fz) : Tied Try.prog num fz P := ⟨by kernel_rfl, fnsOk, fun k f args objs r outs hn _ h => prims_contract hp k f args objs r outs hn h⟩
theorem srt : SrtAll Try.prog num := by
  refine srtAll_of fun e he f t fs h1 h2 h3 => ?_
  simp only [sortTab, List.mem_cons, List.not_mem_nil, or_false] at he
  rcases he with rfl | rfl | rfl | rfl | rfl
  · obtain rfl : 39 = f := Option.some.inj h1; obtain rfl : 24 = t := Option.some.inj h2; obtain rfl : 26 = fs := Option.some.inj h3; exact srt183
  · obtain rfl : 27 = f := Option.some.inj h1; obtain rfl : 23 = t := Option.some.inj h2; obtain rfl : 26 = fs := Option.some.inj h3; exact srt184
  · cases h1
  · cases h1
  · cases h1
theorem prims0 : PrimsOk Try.prog num [] := primsOk_none rfl rfl rfl rfl rfl
end Go.Proofs.Ytgdjnflnfeakjaa
