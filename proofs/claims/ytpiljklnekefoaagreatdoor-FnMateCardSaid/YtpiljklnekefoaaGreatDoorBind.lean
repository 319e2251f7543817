/- That the program's functions are their abstract code: each by the kernel. -/
import Derived.Test.YtpiljklnekefoaaGreatDoorB7
import Derived.Test.YtpiljklnekefoaaGreatDoorCode
import Derived.Test.YtpiljklnekefoaaGreatDoorSrts
import Derived.Test.YtpiljklnekefoaaGreatDoorChecked
import Derived.KernelRfl
namespace Go.Proofs.YtpiljklnekefoaaGreatDoor
open Go
set_option maxRecDepth 100000
/-- Our numbers, and the program's. -/
def numL : List (Nat × Nat) := [(1, 11), (2, 44), (6, 47), (7, 40), (11, 48), (12, 41), (14, 23), (15, 65), (18, 21), (20, 32), (28, 10), (29, 9), (31, 36), (32, 31), (33, 7), (36, 20), (61, 14), (64, 15), (75, 8), (81, 67), (82, 70), (84, 68), (85, 46), (87, 105), (88, 80), (89, 18), (90, 107), (91, 16), (92, 56), (93, 100), (94, 101), (95, 63), (100, 69), (101, 39), (102, 30), (105, 45), (106, 71), (110, 43), (111, 42), (113, 24), (114, 49), (116, 17), (117, 19), (118, 35), (119, 37), (120, 29), (136, 53), (137, 25), (140, 78), (143, 38), (144, 77), (145, 76), (155, 55), (156, 54), (160, 106), (161, 64), (162, 79), (182, 22), (206, 5), (218, 12), (219, 26), (234, 6), (237, 34), (238, 33), (241, 66), (268, 3), (269, 13), (270, 4), (271, 52), (230, 51), (231, 50), (247, 28), (1247, 24), (248, 57), (1248, 25), (310, 27)]
def num (k : Nat) : Option FuncId := numL.lookup k
theorem chk1 : chkFn Tryz.prog num Tryz.f11 c1 = true := by kernel_rfl
theorem chk2 : chkFn Tryz.prog num Tryz.f44 c2 = true := by kernel_rfl
theorem chk6 : chkFn Tryz.prog num Tryz.f47 c6 = true := by kernel_rfl
theorem chk7 : chkFn Tryz.prog num Tryz.f40 c7 = true := by kernel_rfl
theorem chk11 : chkFn Tryz.prog num Tryz.f48 c11 = true := by kernel_rfl
theorem chk12 : chkFn Tryz.prog num Tryz.f41 c12 = true := by kernel_rfl
theorem chk14 : chkFn Tryz.prog num Tryz.f23 c14 = true := by kernel_rfl
theorem chk15 : chkFn Tryz.prog num Tryz.f65 c15 = true := by kernel_rfl
theorem chk18 : chkFn Tryz.prog num Tryz.f21 c18 = true := by kernel_rfl
theorem chk20 : chkFn Tryz.prog num Tryz.f32 c20 = true := by kernel_rfl
theorem chk28 : chkFn Tryz.prog num Tryz.f10 c28 = true := by kernel_rfl
theorem chk29 : chkFn Tryz.prog num Tryz.f9 c29 = true := by kernel_rfl
theorem chk31 : chkFn Tryz.prog num Tryz.f36 c31 = true := by kernel_rfl
theorem chk32 : chkFn Tryz.prog num Tryz.f31 c32 = true := by kernel_rfl
theorem chk33 : chkFn Tryz.prog num Tryz.f7 c33 = true := by kernel_rfl
theorem chk36 : chkFn Tryz.prog num Tryz.f20 c36 = true := by kernel_rfl
theorem chk61 : chkFn Tryz.prog num Tryz.f14 c61 = true := by kernel_rfl
theorem chk64 : chkFn Tryz.prog num Tryz.f15 c64 = true := by kernel_rfl
theorem chk75 : chkFn Tryz.prog num Tryz.f8 c75 = true := by kernel_rfl
theorem chk81 : chkFn Tryz.prog num Tryz.f67 c81 = true := by kernel_rfl
theorem chk82 : chkFn Tryz.prog num Tryz.f70 c82 = true := by kernel_rfl
theorem chk84 : chkFn Tryz.prog num Tryz.f68 c84 = true := by kernel_rfl
theorem chk85 : chkFn Tryz.prog num Tryz.f46 c85 = true := by kernel_rfl
theorem chk87 : chkFn Tryz.prog num Tryz.f105 c87 = true := by kernel_rfl
theorem chk88 : chkFn Tryz.prog num Tryz.f80 c88 = true := by kernel_rfl
theorem chk89 : chkFn Tryz.prog num Tryz.f18 c89 = true := by kernel_rfl
theorem chk90 : chkFn Tryz.prog num Tryz.f107 c90 = true := by kernel_rfl
theorem chk91 : chkFn Tryz.prog num Tryz.f16 c91 = true := by kernel_rfl
theorem chk92 : chkFn Tryz.prog num Tryz.f56 c92 = true := by kernel_rfl
theorem chk93 : chkFn Tryz.prog num Tryz.f100 c93 = true := by kernel_rfl
theorem chk94 : chkFn Tryz.prog num Tryz.f101 c94 = true := by kernel_rfl
theorem chk95 : chkFn Tryz.prog num Tryz.f63 c95 = true := by kernel_rfl
theorem chk100 : chkFn Tryz.prog num Tryz.f69 c100 = true := by kernel_rfl
theorem chk101 : chkFn Tryz.prog num Tryz.f39 c101 = true := by kernel_rfl
theorem chk102 : chkFn Tryz.prog num Tryz.f30 c102 = true := by kernel_rfl
theorem chk105 : chkFn Tryz.prog num Tryz.f45 c105 = true := by kernel_rfl
theorem chk106 : chkFn Tryz.prog num Tryz.f71 c106 = true := by kernel_rfl
theorem chk110 : chkFn Tryz.prog num Tryz.f43 c110 = true := by kernel_rfl
theorem chk111 : chkFn Tryz.prog num Tryz.f42 c111 = true := by kernel_rfl
theorem chk113 : chkFn Tryz.prog num Tryz.f24 c113 = true := by kernel_rfl
theorem chk114 : chkFn Tryz.prog num Tryz.f49 c114 = true := by kernel_rfl
theorem chk116 : chkFn Tryz.prog num Tryz.f17 c116 = true := by kernel_rfl
theorem chk117 : chkFn Tryz.prog num Tryz.f19 c117 = true := by kernel_rfl
theorem chk118 : chkFn Tryz.prog num Tryz.f35 c118 = true := by kernel_rfl
theorem chk119 : chkFn Tryz.prog num Tryz.f37 c119 = true := by kernel_rfl
theorem chk120 : chkFn Tryz.prog num Tryz.f29 c120 = true := by kernel_rfl
theorem chk136 : chkFn Tryz.prog num Tryz.f53 c136 = true := by kernel_rfl
theorem chk137 : chkFn Tryz.prog num Tryz.f25 c137 = true := by kernel_rfl
theorem chk140 : chkFn Tryz.prog num Tryz.f78 c140 = true := by kernel_rfl
theorem chk143 : chkFn Tryz.prog num Tryz.f38 c143 = true := by kernel_rfl
theorem chk144 : chkFn Tryz.prog num Tryz.f77 c144 = true := by kernel_rfl
theorem chk145 : chkFn Tryz.prog num Tryz.f76 c145 = true := by kernel_rfl
theorem chk155 : chkFn Tryz.prog num Tryz.f55 c155 = true := by kernel_rfl
theorem chk156 : chkFn Tryz.prog num Tryz.f54 c156 = true := by kernel_rfl
theorem chk160 : chkFn Tryz.prog num Tryz.f106 c160 = true := by kernel_rfl
theorem chk161 : chkFn Tryz.prog num Tryz.f64 c161 = true := by kernel_rfl
theorem chk162 : chkFn Tryz.prog num Tryz.f79 c162 = true := by kernel_rfl
theorem chk182 : chkFn Tryz.prog num Tryz.f22 c182 = true := by kernel_rfl
theorem chk206 : chkFn Tryz.prog num Tryz.f5 c206 = true := by kernel_rfl
theorem chk218 : chkFn Tryz.prog num Tryz.f12 c218 = true := by kernel_rfl
theorem chk219 : chkFn Tryz.prog num Tryz.f26 c219 = true := by kernel_rfl
theorem chk234 : chkFn Tryz.prog num Tryz.f6 c234 = true := by kernel_rfl
theorem chk237 : chkFn Tryz.prog num Tryz.f34 c237 = true := by kernel_rfl
theorem chk238 : chkFn Tryz.prog num Tryz.f33 c238 = true := by kernel_rfl
theorem chk241 : chkFn Tryz.prog num Tryz.f66 c241 = true := by kernel_rfl
theorem chk268 : chkFn Tryz.prog num Tryz.f3 c268 = true := by kernel_rfl
theorem chk269 : chkFn Tryz.prog num Tryz.f13 c269 = true := by kernel_rfl
theorem chk270 : chkFn Tryz.prog num Tryz.f4 c270 = true := by kernel_rfl
theorem chk271 : chkFn Tryz.prog num Tryz.f52 c271 = true := by kernel_rfl
theorem fnsOk : ∀ k c, codeOf k = some c → ∀ f, num k = some f → ∃ fn, Tryz.prog.funcs[f]? = some fn ∧ chkFn Tryz.prog num fn c = true := by
  intro k c hk f hf
  unfold codeOf at hk
  split at hk
  · obtain rfl := Option.some.inj hk; obtain rfl : 11 = f := Option.some.inj hf; exact ⟨_, Tryz.func11, chk1⟩
  · obtain rfl := Option.some.inj hk; obtain rfl : 44 = f := Option.some.inj hf; exact ⟨_, Tryz.func44, chk2⟩
  · obtain rfl := Option.some.inj hk; obtain rfl : 47 = f := Option.some.inj hf; exact ⟨_, Tryz.func47, chk6⟩
  · obtain rfl := Option.some.inj hk; obtain rfl : 40 = f := Option.some.inj hf; exact ⟨_, Tryz.func40, chk7⟩
  · obtain rfl := Option.some.inj hk; obtain rfl : 48 = f := Option.some.inj hf; exact ⟨_, Tryz.func48, chk11⟩
  · obtain rfl := Option.some.inj hk; obtain rfl : 41 = f := Option.some.inj hf; exact ⟨_, Tryz.func41, chk12⟩
  · obtain rfl := Option.some.inj hk; obtain rfl : 23 = f := Option.some.inj hf; exact ⟨_, Tryz.func23, chk14⟩
  · obtain rfl := Option.some.inj hk; obtain rfl : 65 = f := Option.some.inj hf; exact ⟨_, Tryz.func65, chk15⟩
  · obtain rfl := Option.some.inj hk; obtain rfl : 21 = f := Option.some.inj hf; exact ⟨_, Tryz.func21, chk18⟩
  · obtain rfl := Option.some.inj hk; obtain rfl : 32 = f := Option.some.inj hf; exact ⟨_, Tryz.func32, chk20⟩
  · obtain rfl := Option.some.inj hk; obtain rfl : 10 = f := Option.some.inj hf; exact ⟨_, Tryz.func10, chk28⟩
  · obtain rfl := Option.some.inj hk; obtain rfl : 9 = f := Option.some.inj hf; exact ⟨_, Tryz.func9, chk29⟩
  · obtain rfl := Option.some.inj hk; obtain rfl : 36 = f := Option.some.inj hf; exact ⟨_, Tryz.func36, chk31⟩
  · obtain rfl := Option.some.inj hk; obtain rfl : 31 = f := Option.some.inj hf; exact ⟨_, Tryz.func31, chk32⟩
  · obtain rfl := Option.some.inj hk; obtain rfl : 7 = f := Option.some.inj hf; exact ⟨_, Tryz.func7, chk33⟩
  · obtain rfl := Option.some.inj hk; obtain rfl : 20 = f := Option.some.inj hf; exact ⟨_, Tryz.func20, chk36⟩
  · obtain rfl := Option.some.inj hk; obtain rfl : 14 = f := Option.some.inj hf; exact ⟨_, Tryz.func14, chk61⟩
  · obtain rfl := Option.some.inj hk; obtain rfl : 15 = f := Option.some.inj hf; exact ⟨_, Tryz.func15, chk64⟩
  · obtain rfl := Option.some.inj hk; obtain rfl : 8 = f := Option.some.inj hf; exact ⟨_, Tryz.func8, chk75⟩
  · obtain rfl := Option.some.inj hk; obtain rfl : 67 = f := Option.some.inj hf; exact ⟨_, Tryz.func67, chk81⟩
  · obtain rfl := Option.some.inj hk; obtain rfl : 70 = f := Option.some.inj hf; exact ⟨_, Tryz.func70, chk82⟩
  · obtain rfl := Option.some.inj hk; obtain rfl : 68 = f := Option.some.inj hf; exact ⟨_, Tryz.func68, chk84⟩
  · obtain rfl := Option.some.inj hk; obtain rfl : 46 = f := Option.some.inj hf; exact ⟨_, Tryz.func46, chk85⟩
  · obtain rfl := Option.some.inj hk; obtain rfl : 105 = f := Option.some.inj hf; exact ⟨_, Tryz.func105, chk87⟩
  · obtain rfl := Option.some.inj hk; obtain rfl : 80 = f := Option.some.inj hf; exact ⟨_, Tryz.func80, chk88⟩
  · obtain rfl := Option.some.inj hk; obtain rfl : 18 = f := Option.some.inj hf; exact ⟨_, Tryz.func18, chk89⟩
  · obtain rfl := Option.some.inj hk; obtain rfl : 107 = f := Option.some.inj hf; exact ⟨_, Tryz.func107, chk90⟩
  · obtain rfl := Option.some.inj hk; obtain rfl : 16 = f := Option.some.inj hf; exact ⟨_, Tryz.func16, chk91⟩
  · obtain rfl := Option.some.inj hk; obtain rfl : 56 = f := Option.some.inj hf; exact ⟨_, Tryz.func56, chk92⟩
  · obtain rfl := Option.some.inj hk; obtain rfl : 100 = f := Option.some.inj hf; exact ⟨_, Tryz.func100, chk93⟩
  · obtain rfl := Option.some.inj hk; obtain rfl : 101 = f := Option.some.inj hf; exact ⟨_, Tryz.func101, chk94⟩
  · obtain rfl := Option.some.inj hk; obtain rfl : 63 = f := Option.some.inj hf; exact ⟨_, Tryz.func63, chk95⟩
  · obtain rfl := Option.some.inj hk; obtain rfl : 69 = f := Option.some.inj hf; exact ⟨_, Tryz.func69, chk100⟩
  · obtain rfl := Option.some.inj hk; obtain rfl : 39 = f := Option.some.inj hf; exact ⟨_, Tryz.func39, chk101⟩
  · obtain rfl := Option.some.inj hk; obtain rfl : 30 = f := Option.some.inj hf; exact ⟨_, Tryz.func30, chk102⟩
  · obtain rfl := Option.some.inj hk; obtain rfl : 45 = f := Option.some.inj hf; exact ⟨_, Tryz.func45, chk105⟩
  · obtain rfl := Option.some.inj hk; obtain rfl : 71 = f := Option.some.inj hf; exact ⟨_, Tryz.func71, chk106⟩
  · obtain rfl := Option.some.inj hk; obtain rfl : 43 = f := Option.some.inj hf; exact ⟨_, Tryz.func43, chk110⟩
  · obtain rfl := Option.some.inj hk; obtain rfl : 42 = f := Option.some.inj hf; exact ⟨_, Tryz.func42, chk111⟩
  · obtain rfl := Option.some.inj hk; obtain rfl : 24 = f := Option.some.inj hf; exact ⟨_, Tryz.func24, chk113⟩
  · obtain rfl := Option.some.inj hk; obtain rfl : 49 = f := Option.some.inj hf; exact ⟨_, Tryz.func49, chk114⟩
  · obtain rfl := Option.some.inj hk; obtain rfl : 17 = f := Option.some.inj hf; exact ⟨_, Tryz.func17, chk116⟩
  · obtain rfl := Option.some.inj hk; obtain rfl : 19 = f := Option.some.inj hf; exact ⟨_, Tryz.func19, chk117⟩
  · obtain rfl := Option.some.inj hk; obtain rfl : 35 = f := Option.some.inj hf; exact ⟨_, Tryz.func35, chk118⟩
  · obtain rfl := Option.some.inj hk; obtain rfl : 37 = f := Option.some.inj hf; exact ⟨_, Tryz.func37, chk119⟩
  · obtain rfl := Option.some.inj hk; obtain rfl : 29 = f := Option.some.inj hf; exact ⟨_, Tryz.func29, chk120⟩
  · obtain rfl := Option.some.inj hk; obtain rfl : 53 = f := Option.some.inj hf; exact ⟨_, Tryz.func53, chk136⟩
  · obtain rfl := Option.some.inj hk; obtain rfl : 25 = f := Option.some.inj hf; exact ⟨_, Tryz.func25, chk137⟩
  · obtain rfl := Option.some.inj hk; obtain rfl : 78 = f := Option.some.inj hf; exact ⟨_, Tryz.func78, chk140⟩
  · obtain rfl := Option.some.inj hk; obtain rfl : 38 = f := Option.some.inj hf; exact ⟨_, Tryz.func38, chk143⟩
  · obtain rfl := Option.some.inj hk; obtain rfl : 77 = f := Option.some.inj hf; exact ⟨_, Tryz.func77, chk144⟩
  · obtain rfl := Option.some.inj hk; obtain rfl : 76 = f := Option.some.inj hf; exact ⟨_, Tryz.func76, chk145⟩
  · obtain rfl := Option.some.inj hk; obtain rfl : 55 = f := Option.some.inj hf; exact ⟨_, Tryz.func55, chk155⟩
  · obtain rfl := Option.some.inj hk; obtain rfl : 54 = f := Option.some.inj hf; exact ⟨_, Tryz.func54, chk156⟩
  · obtain rfl := Option.some.inj hk; obtain rfl : 106 = f := Option.some.inj hf; exact ⟨_, Tryz.func106, chk160⟩
  · obtain rfl := Option.some.inj hk; obtain rfl : 64 = f := Option.some.inj hf; exact ⟨_, Tryz.func64, chk161⟩
  · obtain rfl := Option.some.inj hk; obtain rfl : 79 = f := Option.some.inj hf; exact ⟨_, Tryz.func79, chk162⟩
  · obtain rfl := Option.some.inj hk; obtain rfl : 22 = f := Option.some.inj hf; exact ⟨_, Tryz.func22, chk182⟩
  · obtain rfl := Option.some.inj hk; obtain rfl : 5 = f := Option.some.inj hf; exact ⟨_, Tryz.func5, chk206⟩
  · obtain rfl := Option.some.inj hk; obtain rfl : 12 = f := Option.some.inj hf; exact ⟨_, Tryz.func12, chk218⟩
  · obtain rfl := Option.some.inj hk; obtain rfl : 26 = f := Option.some.inj hf; exact ⟨_, Tryz.func26, chk219⟩
  · obtain rfl := Option.some.inj hk; obtain rfl : 6 = f := Option.some.inj hf; exact ⟨_, Tryz.func6, chk234⟩
  · obtain rfl := Option.some.inj hk; obtain rfl : 34 = f := Option.some.inj hf; exact ⟨_, Tryz.func34, chk237⟩
  · obtain rfl := Option.some.inj hk; obtain rfl : 33 = f := Option.some.inj hf; exact ⟨_, Tryz.func33, chk238⟩
  · obtain rfl := Option.some.inj hk; obtain rfl : 66 = f := Option.some.inj hf; exact ⟨_, Tryz.func66, chk241⟩
  · obtain rfl := Option.some.inj hk; obtain rfl : 3 = f := Option.some.inj hf; exact ⟨_, Tryz.func3, chk268⟩
  · obtain rfl := Option.some.inj hk; obtain rfl : 13 = f := Option.some.inj hf; exact ⟨_, Tryz.func13, chk269⟩
  · obtain rfl := Option.some.inj hk; obtain rfl : 4 = f := Option.some.inj hf; exact ⟨_, Tryz.func4, chk270⟩
  · obtain rfl := Option.some.inj hk; obtain rfl : 52 = f := Option.some.inj hf; exact ⟨_, Tryz.func52, chk271⟩
  · cases hk
theorem tied {fz : List (Nat × Obj)} (hp : PrimsOk Tryz.prog num fz) : Tied Tryz.prog num fz P := ⟨by kernel_rfl, fnsOk, fun k f args objs r outs hn _ h => prims_contract hp k f args objs r outs hn h⟩
theorem srt : SrtAll Tryz.prog num := by
  refine srtAll_of fun e he f t fs h1 h2 h3 => ?_
  simp only [sortTab, List.mem_cons, List.not_mem_nil, or_false] at he
  rcases he with rfl | rfl | rfl | rfl | rfl
  · cases h1
  · cases h1
  · obtain rfl : 57 = f := Option.some.inj h1; obtain rfl : 25 = t := Option.some.inj h2; obtain rfl : 27 = fs := Option.some.inj h3; exact srt248
  · obtain rfl : 28 = f := Option.some.inj h1; obtain rfl : 24 = t := Option.some.inj h2; obtain rfl : 27 = fs := Option.some.inj h3; exact srt247
  · cases h1
end Go.Proofs.YtpiljklnekefoaaGreatDoor
