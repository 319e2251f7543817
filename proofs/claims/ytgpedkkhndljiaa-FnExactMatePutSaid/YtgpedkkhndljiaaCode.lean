/- The abstract code of the program's functions, printed by a program of ours out of Lean's own print of the translation. -/
import Derived.Test.YtgpedkkhndljiaaB1
namespace Go.Proofs.Ytgpedkkhndljiaa
open Go
-- laws.toMateWantS
def c4b0 : CCode := (.seq (.seq (.region [
    ⟨some 8, .mov (.tmp 4), none⟩,
    ⟨some 9, .mov (.tmp 0), none⟩,
    ⟨some 10, .len false (.tmp 9), none⟩,
    ⟨some 11, .bin .lss (.tmp 8) (.tmp 10), none⟩] [0, 3, 4, 11])
  (.cond (.tmp 11)
    .skip
    (.exit 0)))
  (.seq (.block 1
    (.region [
      ⟨some 14, .mov (.tmp 3), none⟩,
      ⟨some 15, .mov (.tmp 4), none⟩,
      ⟨some 16, .mov (.tmp 0), none⟩,
      ⟨some 17, .mov (.tmp 4), none⟩,
      ⟨some 18, .iaddr 7 (.tmp 16) (.tmp 17), none⟩,
      ⟨some 19, .load (.tmp 18) 7 true .plain, none⟩,
      ⟨some 20, .call 80 [false] [.tmp 19], none⟩,
      ⟨some 21, .iaddr 7 (.tmp 14) (.tmp 15), none⟩,
      ⟨none, .store (.tmp 21) (.tmp 20) 7, none⟩] [0, 3, 4]))
  (.region [
    ⟨some 12, .mov (.tmp 4), none⟩,
    ⟨some 13, .bin .add (.tmp 12) (.const (.int .i64 1)), none⟩,
    ⟨some 4, .mov (.tmp 13), none⟩] [0, 3, 4])))
def c4 : CFn := ⟨23, [.tmp 2],
  (.seq (.region [
    ⟨some 2, .mov (.const (.sl .own 7 [])), none⟩] [0])
  (.seq (.region [
    ⟨some 5, .mov (.tmp 0), none⟩,
    ⟨some 6, .len false (.tmp 5), none⟩,
    ⟨some 7, .mksl 7 [.str ⟨#[]⟩, .int .i64 0, .str ⟨#[]⟩, .int .i64 0, .int .i64 0, .int .i64 0, .int .i64 0] 72 (.tmp 6), none⟩,
    ⟨some 3, .mov (.tmp 7), none⟩] [0, 3])
  (.seq (.seq (.region [
    ⟨some 4, .mov (.const (.int .i64 0)), none⟩] [0, 3, 4])
  (.block 0
    (.loop [0, 3, 4] c4b0)))
  (.seq (.region [
    ⟨some 22, .mov (.tmp 3), none⟩,
    ⟨some 2, .mov (.tmp 22), none⟩] [2])
  .ret))))⟩
-- laws.eqMateWantS
def c5b0 : CCode := (.seq (.seq (.region [
    ⟨some 11, .mov (.tmp 5), none⟩,
    ⟨some 12, .mov (.tmp 0), none⟩,
    ⟨some 13, .len false (.tmp 12), none⟩,
    ⟨some 14, .bin .lss (.tmp 11) (.tmp 13), none⟩] [0, 1, 5, 14])
  (.cond (.tmp 14)
    .skip
    (.exit 0)))
  (.seq (.block 1
    (.seq (.quiet [
      ⟨some 17, .mov (.tmp 0), none⟩,
      ⟨some 18, .mov (.tmp 5), none⟩,
      ⟨some 19, .iaddr 7 (.tmp 17) (.tmp 18), none⟩,
      ⟨some 20, .load (.tmp 19) 7 true .plain, none⟩,
      ⟨some 21, .mov (.tmp 1), none⟩,
      ⟨some 22, .mov (.tmp 5), none⟩,
      ⟨some 23, .iaddr 7 (.tmp 21) (.tmp 22), none⟩,
      ⟨some 24, .load (.tmp 23) 7 true .plain, none⟩,
      ⟨some 25, .call 83 [false, false] [.tmp 20, .tmp 24], none⟩,
      ⟨some 26, .un .not (.tmp 25), none⟩] [0, 1, 5, 26])
    (.cond (.tmp 26)
      (.seq (.region [
        ⟨some 4, .mov (.const (.bool false)), none⟩] [4])
      .ret)
      .skip)))
  (.region [
    ⟨some 15, .mov (.tmp 5), none⟩,
    ⟨some 16, .bin .add (.tmp 15) (.const (.int .i64 1)), none⟩,
    ⟨some 5, .mov (.tmp 16), none⟩] [0, 1, 5])))
def c5 : CFn := ⟨27, [.tmp 4],
  (.seq (.region [
    ⟨some 4, .mov (.const (.bool false)), none⟩] [0, 1])
  (.seq (.seq (.region [
    ⟨some 6, .mov (.tmp 0), none⟩,
    ⟨some 7, .len false (.tmp 6), none⟩,
    ⟨some 8, .mov (.tmp 1), none⟩,
    ⟨some 9, .len false (.tmp 8), none⟩,
    ⟨some 10, .bin .neq (.tmp 7) (.tmp 9), none⟩] [0, 1, 10])
  (.cond (.tmp 10)
    (.seq (.region [
      ⟨some 4, .mov (.const (.bool false)), none⟩] [4])
    .ret)
    .skip))
  (.seq (.seq (.region [
    ⟨some 5, .mov (.const (.int .i64 0)), none⟩] [0, 1, 5])
  (.block 0
    (.loop [0, 1, 5] c5b0)))
  (.seq (.region [
    ⟨some 4, .mov (.const (.bool true)), none⟩] [4])
  .ret))))⟩
-- impl.MateWantsOk
def c6b0 : CCode := (.seq (.region [
    ⟨some 10, .bin .lss (.tmp 9) (.tmp 8), none⟩] [0, 3, 7, 8, 9, 10])
  (.seq (.cond (.tmp 10)
    .skip
    (.exit 0))
  (.seq (.block 1
    (.seq (.region [
      ⟨some 11, .mov (.tmp 9), none⟩,
      ⟨some 12, .iaddr 7 (.tmp 7) (.tmp 9), none⟩,
      ⟨some 13, .load (.tmp 12) 7 true .plain, none⟩,
      ⟨some 5, .alloc [.str ⟨#[]⟩, .int .i64 0, .str ⟨#[]⟩, .int .i64 0, .int .i64 0, .int .i64 0, .int .i64 0], none⟩,
      ⟨some 4, .mov (.tmp 11), none⟩,
      ⟨none, .store (.tmp 5) (.tmp 13) 7, none⟩] [0, 3, 4, 5, 7, 8, 9])
    (.seq (.seq (.quiet [
      ⟨some 14, .load (.tmp 5) 7 true .plain, none⟩,
      ⟨some 15, .call 82 [false] [.tmp 14], none⟩,
      ⟨some 16, .un .not (.tmp 15), none⟩,
      ⟨some 17, .mov (.tmp 16), none⟩,
      ⟨some 18, .mov (.tmp 4), some (17, false)⟩,
      ⟨some 19, .bin .gtr (.tmp 18) (.const (.int .i64 0)), some (17, false)⟩,
      ⟨some 20, .mov (.tmp 19), some (17, false)⟩,
      ⟨some 21, .mov (.tmp 0), some (20, true)⟩,
      ⟨some 22, .mov (.tmp 4), some (20, true)⟩,
      ⟨some 23, .bin .sub (.tmp 22) (.const (.int .i64 1)), some (20, true)⟩,
      ⟨some 24, .iaddr 7 (.tmp 21) (.tmp 23), some (20, true)⟩,
      ⟨some 25, .faddr (.tmp 24) 0, some (20, true)⟩,
      ⟨some 26, .load (.tmp 25) 1 false .plain, some (20, true)⟩,
      ⟨some 27, .faddr (.tmp 5) 0, some (20, true)⟩,
      ⟨some 28, .load (.tmp 27) 1 false .plain, some (20, true)⟩,
      ⟨some 29, .bin .geq (.tmp 26) (.tmp 28), some (20, true)⟩,
      ⟨some 30, .pick (.tmp 20) (.tmp 29) (.const (.bool false)), some (17, false)⟩,
      ⟨some 31, .pick (.tmp 17) (.const (.bool true)) (.tmp 30), none⟩,
      ⟨some 32, .mov (.tmp 31), none⟩,
      ⟨some 33, .faddr (.tmp 5) 2, some (32, false)⟩,
      ⟨some 34, .load (.tmp 33) 1 false .plain, some (32, false)⟩,
      ⟨some 35, .bin .neq (.tmp 34) (.const (.str ⟨#[]⟩)), some (32, false)⟩,
      ⟨some 36, .mov (.tmp 35), some (32, false)⟩,
      ⟨some 37, .mov (.tmp 3), some (36, true)⟩,
      ⟨some 38, .faddr (.tmp 5) 2, some (36, true)⟩,
      ⟨some 39, .load (.tmp 38) 1 false .plain, some (36, true)⟩,
      ⟨some 40, .lookup false (.bool false) (.tmp 37) (.tmp 39), some (36, true)⟩,
      ⟨some 41, .pick (.tmp 36) (.tmp 40) (.const (.bool false)), some (32, false)⟩,
      ⟨some 42, .pick (.tmp 32) (.const (.bool true)) (.tmp 41), none⟩] [0, 3, 5, 7, 8, 9, 42])
    (.cond (.tmp 42)
      (.seq (.region [
        ⟨some 2, .mov (.const (.bool false)), none⟩] [2])
      .ret)
      .skip))
    (.region [
      ⟨some 43, .mov (.tmp 3), none⟩,
      ⟨some 44, .faddr (.tmp 5) 2, none⟩,
      ⟨some 45, .load (.tmp 44) 1 false .plain, none⟩,
      ⟨none, .mapset false (.tmp 43) (.tmp 45) (.const (.bool true)), none⟩] [0, 3, 7, 8, 9]))))
  (.region [
    ⟨some 46, .bin .add (.tmp 9) (.const (.int .i64 1)), none⟩,
    ⟨some 9, .mov (.tmp 46), none⟩] [0, 3, 7, 8, 9]))))
def c6 : CFn := ⟨50, [.tmp 2],
  (.seq (.region [
    ⟨some 2, .mov (.const (.bool false)), none⟩] [0])
  (.seq (.region [
    ⟨some 6, .mkmap false, none⟩,
    ⟨some 3, .mov (.tmp 6), none⟩] [0, 3])
  (.seq (.seq (.region [
    ⟨some 7, .mov (.tmp 0), none⟩,
    ⟨some 8, .len false (.tmp 7), none⟩,
    ⟨some 9, .mov (.const (.int .i64 0)), none⟩] [0, 3, 7, 8, 9])
  (.block 0
    (.loop [0, 3, 7, 8, 9] c6b0)))
  (.seq (.region [
    ⟨some 47, .mov (.tmp 0), none⟩,
    ⟨some 48, .len false (.tmp 47), none⟩,
    ⟨some 49, .bin .leq (.tmp 48) (.const (.int .i64 10)), none⟩,
    ⟨some 2, .mov (.tmp 49), none⟩] [2])
  .ret))))⟩
-- spec.MateWantsOk
def c7b0 : CCode := (.seq (.seq (.region [
    ⟨some 38, .mov (.tmp 4), none⟩,
    ⟨some 39, .mov (.tmp 3), none⟩,
    ⟨some 40, .bin .lss (.tmp 38) (.tmp 39), none⟩] [0, 3, 4, 40])
  (.cond (.tmp 40)
    .skip
    (.exit 2)))
  (.seq (.block 3
    (.seq (.quiet [
      ⟨some 43, .mov (.tmp 0), none⟩,
      ⟨some 44, .mov (.tmp 3), none⟩,
      ⟨some 45, .iaddr 7 (.tmp 43) (.tmp 44), none⟩,
      ⟨some 46, .faddr (.tmp 45) 2, none⟩,
      ⟨some 47, .load (.tmp 46) 1 false .plain, none⟩,
      ⟨some 48, .bin .neq (.tmp 47) (.const (.str ⟨#[]⟩)), none⟩,
      ⟨some 49, .mov (.tmp 48), none⟩,
      ⟨some 50, .mov (.tmp 0), some (49, true)⟩,
      ⟨some 51, .mov (.tmp 4), some (49, true)⟩,
      ⟨some 52, .iaddr 7 (.tmp 50) (.tmp 51), some (49, true)⟩,
      ⟨some 53, .faddr (.tmp 52) 2, some (49, true)⟩,
      ⟨some 54, .load (.tmp 53) 1 false .plain, some (49, true)⟩,
      ⟨some 55, .mov (.tmp 0), some (49, true)⟩,
      ⟨some 56, .mov (.tmp 3), some (49, true)⟩,
      ⟨some 57, .iaddr 7 (.tmp 55) (.tmp 56), some (49, true)⟩,
      ⟨some 58, .faddr (.tmp 57) 2, some (49, true)⟩,
      ⟨some 59, .load (.tmp 58) 1 false .plain, some (49, true)⟩,
      ⟨some 60, .bin .eql (.tmp 54) (.tmp 59), some (49, true)⟩,
      ⟨some 61, .pick (.tmp 49) (.tmp 60) (.const (.bool false)), none⟩] [0, 3, 4, 61])
    (.cond (.tmp 61)
      (.seq (.region [
        ⟨some 2, .mov (.const (.bool false)), none⟩] [2])
      .ret)
      .skip)))
  (.region [
    ⟨some 41, .mov (.tmp 4), none⟩,
    ⟨some 42, .bin .add (.tmp 41) (.const (.int .i64 1)), none⟩,
    ⟨some 4, .mov (.tmp 42), none⟩] [0, 3, 4])))
def c7b1 : CCode := (.seq (.seq (.region [
    ⟨some 8, .mov (.tmp 3), none⟩,
    ⟨some 9, .mov (.tmp 0), none⟩,
    ⟨some 10, .len false (.tmp 9), none⟩,
    ⟨some 11, .bin .lss (.tmp 8) (.tmp 10), none⟩] [0, 3, 11])
  (.cond (.tmp 11)
    .skip
    (.exit 0)))
  (.seq (.block 1
    (.seq (.seq (.quiet [
      ⟨some 14, .mov (.tmp 0), none⟩,
      ⟨some 15, .mov (.tmp 3), none⟩,
      ⟨some 16, .iaddr 7 (.tmp 14) (.tmp 15), none⟩,
      ⟨some 17, .load (.tmp 16) 7 true .plain, none⟩,
      ⟨some 18, .call 81 [false] [.tmp 17], none⟩,
      ⟨some 19, .un .not (.tmp 18), none⟩,
      ⟨some 20, .mov (.tmp 19), none⟩,
      ⟨some 21, .mov (.tmp 3), some (20, false)⟩,
      ⟨some 22, .bin .gtr (.tmp 21) (.const (.int .i64 0)), some (20, false)⟩,
      ⟨some 23, .mov (.tmp 22), some (20, false)⟩,
      ⟨some 24, .mov (.tmp 0), some (23, true)⟩,
      ⟨some 25, .mov (.tmp 3), some (23, true)⟩,
      ⟨some 26, .bin .sub (.tmp 25) (.const (.int .i64 1)), some (23, true)⟩,
      ⟨some 27, .iaddr 7 (.tmp 24) (.tmp 26), some (23, true)⟩,
      ⟨some 28, .faddr (.tmp 27) 0, some (23, true)⟩,
      ⟨some 29, .load (.tmp 28) 1 false .plain, some (23, true)⟩,
      ⟨some 30, .mov (.tmp 0), some (23, true)⟩,
      ⟨some 31, .mov (.tmp 3), some (23, true)⟩,
      ⟨some 32, .iaddr 7 (.tmp 30) (.tmp 31), some (23, true)⟩,
      ⟨some 33, .faddr (.tmp 32) 0, some (23, true)⟩,
      ⟨some 34, .load (.tmp 33) 1 false .plain, some (23, true)⟩,
      ⟨some 35, .bin .geq (.tmp 29) (.tmp 34), some (23, true)⟩,
      ⟨some 36, .pick (.tmp 23) (.tmp 35) (.const (.bool false)), some (20, false)⟩,
      ⟨some 37, .pick (.tmp 20) (.const (.bool true)) (.tmp 36), none⟩] [0, 3, 37])
    (.cond (.tmp 37)
      (.seq (.region [
        ⟨some 2, .mov (.const (.bool false)), none⟩] [2])
      .ret)
      .skip))
    (.seq (.region [
      ⟨some 4, .mov (.const (.int .i64 0)), none⟩] [0, 3, 4])
    (.block 2
      (.loop [0, 3, 4] c7b0)))))
  (.region [
    ⟨some 12, .mov (.tmp 3), none⟩,
    ⟨some 13, .bin .add (.tmp 12) (.const (.int .i64 1)), none⟩,
    ⟨some 3, .mov (.tmp 13), none⟩] [0, 3])))
def c7 : CFn := ⟨62, [.tmp 2],
  (.seq (.region [
    ⟨some 2, .mov (.const (.bool false)), none⟩] [0])
  (.seq (.seq (.region [
    ⟨some 5, .mov (.tmp 0), none⟩,
    ⟨some 6, .len false (.tmp 5), none⟩,
    ⟨some 7, .bin .gtr (.tmp 6) (.const (.int .i64 10)), none⟩] [0, 7])
  (.cond (.tmp 7)
    (.seq (.region [
      ⟨some 2, .mov (.const (.bool false)), none⟩] [2])
    .ret)
    .skip))
  (.seq (.seq (.region [
    ⟨some 3, .mov (.const (.int .i64 0)), none⟩] [0, 3])
  (.block 0
    (.loop [0, 3] c7b1)))
  (.seq (.region [
    ⟨some 2, .mov (.const (.bool true)), none⟩] [2])
  .ret))))⟩
-- laws.szMateWantS
def c8b0 : CCode := (.seq (.seq (.region [
    ⟨some 12, .mov (.tmp 5), none⟩,
    ⟨some 13, .mov (.tmp 0), none⟩,
    ⟨some 14, .len false (.tmp 13), none⟩,
    ⟨some 15, .bin .lss (.tmp 12) (.tmp 14), none⟩] [0, 1, 5, 15])
  (.cond (.tmp 15)
    .skip
    (.exit 0)))
  (.seq (.block 1
    (.seq (.region [
      ⟨some 18, .mov (.tmp 0), none⟩,
      ⟨some 19, .mov (.tmp 5), none⟩,
      ⟨some 20, .iaddr 7 (.tmp 18) (.tmp 19), none⟩,
      ⟨some 21, .load (.tmp 20) 7 true .plain, none⟩,
      ⟨some 22, .mov (.tmp 1), none⟩,
      ⟨some 23, .call 79 [false, false] [.tmp 21, .tmp 22], none⟩,
      ⟨some 1, .mov (.tmp 23), none⟩] [0, 1, 5])
    (.seq (.region [
      ⟨some 24, .mov (.tmp 1), none⟩,
      ⟨some 25, .bin .lss (.tmp 24) (.const (.int .i64 0)), none⟩] [0, 1, 5, 25])
    (.cond (.tmp 25)
      (.seq (.region [
        ⟨some 4, .mov (.const (.int .i64 (-1))), none⟩] [4])
      .ret)
      .skip))))
  (.region [
    ⟨some 16, .mov (.tmp 5), none⟩,
    ⟨some 17, .bin .add (.tmp 16) (.const (.int .i64 1)), none⟩,
    ⟨some 5, .mov (.tmp 17), none⟩] [0, 1, 5])))
def c8 : CFn := ⟨27, [.tmp 4],
  (.seq (.region [
    ⟨some 4, .mov (.const (.int .i64 0)), none⟩] [0, 1])
  (.seq (.region [
    ⟨some 6, .mov (.tmp 1), none⟩,
    ⟨some 7, .mov (.tmp 0), none⟩,
    ⟨some 8, .len false (.tmp 7), none⟩,
    ⟨some 9, .bin .sub (.tmp 6) (.tmp 8), none⟩,
    ⟨some 1, .mov (.tmp 9), none⟩] [0, 1])
  (.seq (.seq (.region [
    ⟨some 10, .mov (.tmp 1), none⟩,
    ⟨some 11, .bin .lss (.tmp 10) (.const (.int .i64 0)), none⟩] [0, 1, 11])
  (.cond (.tmp 11)
    (.seq (.region [
      ⟨some 4, .mov (.const (.int .i64 (-1))), none⟩] [4])
    .ret)
    .skip))
  (.seq (.seq (.region [
    ⟨some 5, .mov (.const (.int .i64 0)), none⟩] [0, 1, 5])
  (.block 0
    (.loop [0, 1, 5] c8b0)))
  (.seq (.region [
    ⟨some 26, .mov (.tmp 1), none⟩,
    ⟨some 4, .mov (.tmp 26), none⟩] [4])
  .ret)))))⟩
-- laws.toMateLand
def c21 : CFn := ⟨16, [.cell 2 3 true],
  (.seq (.region [
    ⟨some 1, .box (.tmp 0), none⟩,
    ⟨some 2, .alloc [.int .i64 0, .sl .own 5 [], .sl .own 3 []], none⟩] [1, 2])
  (.seq (.region [
    ⟨some 3, .alloc [.int .i64 0, .sl .own 5 [], .sl .own 3 []], none⟩] [1, 2, 3])
  (.seq (.region [
    ⟨some 4, .faddr (.tmp 1) 0, none⟩,
    ⟨some 5, .load (.tmp 4) 1 false .plain, none⟩,
    ⟨some 6, .faddr (.tmp 3) 0, none⟩,
    ⟨none, .store (.tmp 6) (.tmp 5) 1, none⟩] [1, 2, 3])
  (.seq (.region [
    ⟨some 7, .faddr (.tmp 1) 1, none⟩,
    ⟨some 8, .load (.tmp 7) 1 false .plain, none⟩,
    ⟨some 9, .call 104 [false] [.tmp 8], none⟩,
    ⟨some 10, .faddr (.tmp 3) 1, none⟩,
    ⟨none, .store (.tmp 10) (.tmp 9) 1, none⟩] [1, 2, 3])
  (.seq (.region [
    ⟨some 11, .faddr (.tmp 1) 2, none⟩,
    ⟨some 12, .load (.tmp 11) 1 false .plain, none⟩,
    ⟨some 13, .call 103 [false] [.tmp 12], none⟩,
    ⟨some 14, .faddr (.tmp 3) 2, none⟩,
    ⟨none, .store (.tmp 14) (.tmp 13) 1, none⟩] [2, 3])
  (.seq (.region [
    ⟨some 15, .load (.tmp 3) 3 true .plain, none⟩,
    ⟨none, .store (.tmp 2) (.tmp 15) 3, none⟩] [2])
  .ret))))))⟩
-- laws.eqMateLand
def c22 : CFn := ⟨22, [.tmp 4],
  (.seq (.region [
    ⟨some 2, .box (.tmp 0), none⟩,
    ⟨some 3, .box (.tmp 1), none⟩,
    ⟨some 4, .mov (.const (.bool false)), none⟩] [2, 3])
  (.seq (.seq (.region [
    ⟨some 5, .faddr (.tmp 2) 0, none⟩,
    ⟨some 6, .load (.tmp 5) 1 false .plain, none⟩,
    ⟨some 7, .faddr (.tmp 3) 0, none⟩,
    ⟨some 8, .load (.tmp 7) 1 false .plain, none⟩,
    ⟨some 9, .bin .neq (.tmp 6) (.tmp 8), none⟩] [2, 3, 9])
  (.cond (.tmp 9)
    (.seq (.region [
      ⟨some 4, .mov (.const (.bool false)), none⟩] [4])
    .ret)
    .skip))
  (.seq (.seq (.region [
    ⟨some 10, .faddr (.tmp 2) 1, none⟩,
    ⟨some 11, .load (.tmp 10) 1 false .plain, none⟩,
    ⟨some 12, .faddr (.tmp 3) 1, none⟩,
    ⟨some 13, .load (.tmp 12) 1 false .plain, none⟩,
    ⟨some 14, .call 108 [false, false] [.tmp 11, .tmp 13], none⟩,
    ⟨some 15, .un .not (.tmp 14), none⟩] [2, 3, 15])
  (.cond (.tmp 15)
    (.seq (.region [
      ⟨some 4, .mov (.const (.bool false)), none⟩] [4])
    .ret)
    .skip))
  (.seq (.seq (.region [
    ⟨some 16, .faddr (.tmp 2) 2, none⟩,
    ⟨some 17, .load (.tmp 16) 1 false .plain, none⟩,
    ⟨some 18, .faddr (.tmp 3) 2, none⟩,
    ⟨some 19, .load (.tmp 18) 1 false .plain, none⟩,
    ⟨some 20, .call 107 [false, false] [.tmp 17, .tmp 19], none⟩,
    ⟨some 21, .un .not (.tmp 20), none⟩] [21])
  (.cond (.tmp 21)
    (.seq (.region [
      ⟨some 4, .mov (.const (.bool false)), none⟩] [4])
    .ret)
    .skip))
  (.seq (.region [
    ⟨some 4, .mov (.const (.bool true)), none⟩] [4])
  .ret)))))⟩
-- impl.MateLandOk
def c23b0 : CCode := (.seq (.region [
    ⟨some 36, .bin .lss (.tmp 35) (.tmp 34), none⟩] [1, 33, 34, 35, 36])
  (.seq (.cond (.tmp 36)
    .skip
    (.exit 0))
  (.seq (.block 1
    (.seq (.region [
      ⟨some 37, .mov (.tmp 35), none⟩,
      ⟨some 38, .iaddr 5 (.tmp 33) (.tmp 35), none⟩,
      ⟨some 39, .load (.tmp 38) 5 true .plain, none⟩,
      ⟨some 4, .alloc [.str ⟨#[]⟩, .str ⟨#[]⟩, .str ⟨#[]⟩, .int .i64 0, .int .i64 0], none⟩,
      ⟨some 3, .mov (.tmp 37), none⟩,
      ⟨none, .store (.tmp 4) (.tmp 39) 5, none⟩] [1, 3, 4, 33, 34, 35])
    (.seq (.quiet [
      ⟨some 40, .faddr (.tmp 4) 0, none⟩,
      ⟨some 41, .load (.tmp 40) 1 false .plain, none⟩,
      ⟨some 42, .call 106 [false] [.tmp 41], none⟩,
      ⟨some 43, .un .not (.tmp 42), none⟩,
      ⟨some 44, .mov (.tmp 43), none⟩,
      ⟨some 45, .faddr (.tmp 4) 1, some (44, false)⟩,
      ⟨some 46, .load (.tmp 45) 1 false .plain, some (44, false)⟩,
      ⟨some 47, .call 105 [false] [.tmp 46], some (44, false)⟩,
      ⟨some 48, .un .not (.tmp 47), some (44, false)⟩,
      ⟨some 49, .pick (.tmp 44) (.const (.bool true)) (.tmp 48), none⟩,
      ⟨some 50, .mov (.tmp 49), none⟩,
      ⟨some 51, .faddr (.tmp 4) 2, some (50, false)⟩,
      ⟨some 52, .load (.tmp 51) 1 false .plain, some (50, false)⟩,
      ⟨some 53, .call 105 [false] [.tmp 52], some (50, false)⟩,
      ⟨some 54, .un .not (.tmp 53), some (50, false)⟩,
      ⟨some 55, .pick (.tmp 50) (.const (.bool true)) (.tmp 54), none⟩,
      ⟨some 56, .mov (.tmp 55), none⟩,
      ⟨some 57, .mov (.tmp 3), some (56, false)⟩,
      ⟨some 58, .bin .gtr (.tmp 57) (.const (.int .i64 0)), some (56, false)⟩,
      ⟨some 59, .mov (.tmp 58), some (56, false)⟩,
      ⟨some 60, .faddr (.tmp 1) 1, some (59, true)⟩,
      ⟨some 61, .load (.tmp 60) 1 false .plain, some (59, true)⟩,
      ⟨some 62, .mov (.tmp 3), some (59, true)⟩,
      ⟨some 63, .bin .sub (.tmp 62) (.const (.int .i64 1)), some (59, true)⟩,
      ⟨some 64, .iaddr 5 (.tmp 61) (.tmp 63), some (59, true)⟩,
      ⟨some 65, .faddr (.tmp 64) 0, some (59, true)⟩,
      ⟨some 66, .load (.tmp 65) 1 false .plain, some (59, true)⟩,
      ⟨some 67, .faddr (.tmp 4) 0, some (59, true)⟩,
      ⟨some 68, .load (.tmp 67) 1 false .plain, some (59, true)⟩,
      ⟨some 69, .bin .geq (.tmp 66) (.tmp 68), some (59, true)⟩,
      ⟨some 70, .pick (.tmp 59) (.tmp 69) (.const (.bool false)), some (56, false)⟩,
      ⟨some 71, .pick (.tmp 56) (.const (.bool true)) (.tmp 70), none⟩,
      ⟨some 72, .mov (.tmp 71), none⟩,
      ⟨some 73, .faddr (.tmp 4) 3, some (72, false)⟩,
      ⟨some 74, .load (.tmp 73) 1 false .plain, some (72, false)⟩,
      ⟨some 75, .call 85 [false, false, false] [.tmp 74, .const (.int .i64 0), .const (.int .i64 1000000)], some (72, false)⟩,
      ⟨some 76, .un .not (.tmp 75), some (72, false)⟩,
      ⟨some 77, .pick (.tmp 72) (.const (.bool true)) (.tmp 76), none⟩,
      ⟨some 78, .mov (.tmp 77), none⟩,
      ⟨some 79, .faddr (.tmp 4) 4, some (78, false)⟩,
      ⟨some 80, .load (.tmp 79) 1 false .plain, some (78, false)⟩,
      ⟨some 81, .faddr (.tmp 1) 0, some (78, false)⟩,
      ⟨some 82, .load (.tmp 81) 1 false .plain, some (78, false)⟩,
      ⟨some 83, .bin .add (.tmp 82) (.const (.int .i64 32)), some (78, false)⟩,
      ⟨some 84, .call 85 [false, false, false] [.tmp 80, .const (.int .i64 0), .tmp 83], some (78, false)⟩,
      ⟨some 85, .un .not (.tmp 84), some (78, false)⟩,
      ⟨some 86, .pick (.tmp 78) (.const (.bool true)) (.tmp 85), none⟩] [1, 33, 34, 35, 86])
    (.cond (.tmp 86)
      (.seq (.region [
        ⟨some 2, .mov (.const (.bool false)), none⟩] [2])
      .ret)
      .skip))))
  (.region [
    ⟨some 87, .bin .add (.tmp 35) (.const (.int .i64 1)), none⟩,
    ⟨some 35, .mov (.tmp 87), none⟩] [1, 33, 34, 35]))))
def c23b1 : CCode := (.seq (.region [
    ⟨some 133, .bin .lss (.tmp 132) (.tmp 131), none⟩] [1, 5, 90, 91, 92, 130, 131, 132, 133])
  (.seq (.cond (.tmp 133)
    .skip
    (.exit 4))
  (.seq (.block 5
    (.seq (.region [
      ⟨some 134, .iaddr 7 (.tmp 130) (.tmp 132), none⟩,
      ⟨some 135, .load (.tmp 134) 7 true .plain, none⟩,
      ⟨some 9, .alloc [.str ⟨#[]⟩, .int .i64 0, .str ⟨#[]⟩, .int .i64 0, .int .i64 0, .int .i64 0, .int .i64 0], none⟩,
      ⟨none, .store (.tmp 9) (.tmp 135) 7, none⟩] [1, 5, 9, 90, 91, 92, 130, 131, 132])
    (.seq (.seq (.region [
      ⟨some 136, .faddr (.tmp 9) 2, none⟩,
      ⟨some 137, .load (.tmp 136) 1 false .plain, none⟩,
      ⟨some 138, .bin .neq (.tmp 137) (.const (.str ⟨#[]⟩)), none⟩,
      ⟨some 139, .mov (.tmp 138), none⟩,
      ⟨some 140, .mov (.tmp 5), some (139, true)⟩,
      ⟨some 141, .faddr (.tmp 9) 2, some (139, true)⟩,
      ⟨some 142, .load (.tmp 141) 1 false .plain, some (139, true)⟩,
      ⟨some 143, .lookup false (.bool false) (.tmp 140) (.tmp 142), some (139, true)⟩,
      ⟨some 144, .pick (.tmp 139) (.tmp 143) (.const (.bool false)), none⟩] [1, 5, 9, 90, 91, 92, 130, 131, 132, 144])
    (.cond (.tmp 144)
      (.seq (.region [
        ⟨some 2, .mov (.const (.bool false)), none⟩] [2])
      .ret)
      .skip))
    (.region [
      ⟨some 145, .mov (.tmp 5), none⟩,
      ⟨some 146, .faddr (.tmp 9) 2, none⟩,
      ⟨some 147, .load (.tmp 146) 1 false .plain, none⟩,
      ⟨none, .mapset false (.tmp 145) (.tmp 147) (.const (.bool true)), none⟩] [1, 5, 90, 91, 92, 130, 131, 132]))))
  (.region [
    ⟨some 148, .bin .add (.tmp 132) (.const (.int .i64 1)), none⟩,
    ⟨some 132, .mov (.tmp 148), none⟩] [1, 5, 90, 91, 92, 130, 131, 132]))))
def c23b2 : CCode := (.seq (.region [
    ⟨some 93, .bin .lss (.tmp 92) (.tmp 91), none⟩] [1, 5, 90, 91, 92, 93])
  (.seq (.cond (.tmp 93)
    .skip
    (.exit 2))
  (.seq (.block 3
    (.seq (.region [
      ⟨some 94, .mov (.tmp 92), none⟩,
      ⟨some 95, .iaddr 3 (.tmp 90) (.tmp 92), none⟩,
      ⟨some 96, .load (.tmp 95) 3 true .plain, none⟩,
      ⟨some 7, .alloc [.str ⟨#[]⟩, .int .i64 0, .sl .own 7 []], none⟩,
      ⟨some 6, .mov (.tmp 94), none⟩,
      ⟨none, .store (.tmp 7) (.tmp 96) 3, none⟩] [1, 5, 6, 7, 90, 91, 92])
    (.seq (.seq (.quiet [
      ⟨some 97, .faddr (.tmp 7) 0, none⟩,
      ⟨some 98, .load (.tmp 97) 1 false .plain, none⟩,
      ⟨some 99, .call 105 [false] [.tmp 98], none⟩,
      ⟨some 100, .un .not (.tmp 99), none⟩,
      ⟨some 101, .mov (.tmp 100), none⟩,
      ⟨some 102, .mov (.tmp 6), some (101, false)⟩,
      ⟨some 103, .bin .gtr (.tmp 102) (.const (.int .i64 0)), some (101, false)⟩,
      ⟨some 104, .mov (.tmp 103), some (101, false)⟩,
      ⟨some 105, .faddr (.tmp 1) 2, some (104, true)⟩,
      ⟨some 106, .load (.tmp 105) 1 false .plain, some (104, true)⟩,
      ⟨some 107, .mov (.tmp 6), some (104, true)⟩,
      ⟨some 108, .bin .sub (.tmp 107) (.const (.int .i64 1)), some (104, true)⟩,
      ⟨some 109, .iaddr 3 (.tmp 106) (.tmp 108), some (104, true)⟩,
      ⟨some 110, .faddr (.tmp 109) 0, some (104, true)⟩,
      ⟨some 111, .load (.tmp 110) 1 false .plain, some (104, true)⟩,
      ⟨some 112, .faddr (.tmp 7) 0, some (104, true)⟩,
      ⟨some 113, .load (.tmp 112) 1 false .plain, some (104, true)⟩,
      ⟨some 114, .bin .geq (.tmp 111) (.tmp 113), some (104, true)⟩,
      ⟨some 115, .pick (.tmp 104) (.tmp 114) (.const (.bool false)), some (101, false)⟩,
      ⟨some 116, .pick (.tmp 101) (.const (.bool true)) (.tmp 115), none⟩,
      ⟨some 117, .mov (.tmp 116), none⟩,
      ⟨some 118, .faddr (.tmp 7) 1, some (117, false)⟩,
      ⟨some 119, .load (.tmp 118) 1 false .plain, some (117, false)⟩,
      ⟨some 120, .call 85 [false, false, false] [.tmp 119, .const (.int .i64 1), .const (.int .i64 1000000)], some (117, false)⟩,
      ⟨some 121, .un .not (.tmp 120), some (117, false)⟩,
      ⟨some 122, .pick (.tmp 117) (.const (.bool true)) (.tmp 121), none⟩,
      ⟨some 123, .mov (.tmp 122), none⟩,
      ⟨some 124, .faddr (.tmp 7) 2, some (123, false)⟩,
      ⟨some 125, .load (.tmp 124) 1 false .plain, some (123, false)⟩,
      ⟨some 126, .call 6 [false] [.tmp 125], some (123, false)⟩,
      ⟨some 127, .un .not (.tmp 126), some (123, false)⟩,
      ⟨some 128, .pick (.tmp 123) (.const (.bool true)) (.tmp 127), none⟩] [1, 5, 7, 90, 91, 92, 128])
    (.cond (.tmp 128)
      (.seq (.region [
        ⟨some 2, .mov (.const (.bool false)), none⟩] [2])
      .ret)
      .skip))
    (.seq (.region [
      ⟨some 129, .faddr (.tmp 7) 2, none⟩,
      ⟨some 130, .load (.tmp 129) 1 false .plain, none⟩,
      ⟨some 131, .len false (.tmp 130), none⟩,
      ⟨some 132, .mov (.const (.int .i64 0)), none⟩] [1, 5, 90, 91, 92, 130, 131, 132])
    (.block 4
      (.loop [1, 5, 90, 91, 92, 130, 131, 132] c23b1))))))
  (.region [
    ⟨some 149, .bin .add (.tmp 92) (.const (.int .i64 1)), none⟩,
    ⟨some 92, .mov (.tmp 149), none⟩] [1, 5, 90, 91, 92]))))
def c23 : CFn := ⟨150, [.tmp 2],
  (.seq (.region [
    ⟨some 1, .box (.tmp 0), none⟩,
    ⟨some 2, .mov (.const (.bool false)), none⟩] [1])
  (.seq (.seq (.region [
    ⟨some 10, .faddr (.tmp 1) 0, none⟩,
    ⟨some 11, .load (.tmp 10) 1 false .plain, none⟩,
    ⟨some 12, .call 85 [false, false, false] [.tmp 11, .const (.int .i64 0), .const (.int .i64 2000000)], none⟩,
    ⟨some 13, .un .not (.tmp 12), none⟩,
    ⟨some 14, .mov (.tmp 13), none⟩,
    ⟨some 15, .faddr (.tmp 1) 0, some (14, false)⟩,
    ⟨some 16, .load (.tmp 15) 1 false .plain, some (14, false)⟩,
    ⟨some 17, .bin .rem (.tmp 16) (.const (.int .i64 2)), some (14, false)⟩,
    ⟨some 18, .bin .neq (.tmp 17) (.const (.int .i64 0)), some (14, false)⟩,
    ⟨some 19, .pick (.tmp 14) (.const (.bool true)) (.tmp 18), none⟩,
    ⟨some 20, .mov (.tmp 19), none⟩,
    ⟨some 21, .faddr (.tmp 1) 1, some (20, false)⟩,
    ⟨some 22, .load (.tmp 21) 1 false .plain, some (20, false)⟩,
    ⟨some 23, .len false (.tmp 22), some (20, false)⟩,
    ⟨some 24, .bin .gtr (.tmp 23) (.const (.int .i64 40)), some (20, false)⟩,
    ⟨some 25, .pick (.tmp 20) (.const (.bool true)) (.tmp 24), none⟩,
    ⟨some 26, .mov (.tmp 25), none⟩,
    ⟨some 27, .faddr (.tmp 1) 2, some (26, false)⟩,
    ⟨some 28, .load (.tmp 27) 1 false .plain, some (26, false)⟩,
    ⟨some 29, .len false (.tmp 28), some (26, false)⟩,
    ⟨some 30, .bin .gtr (.tmp 29) (.const (.int .i64 4)), some (26, false)⟩,
    ⟨some 31, .pick (.tmp 26) (.const (.bool true)) (.tmp 30), none⟩] [1, 31])
  (.cond (.tmp 31)
    (.seq (.region [
      ⟨some 2, .mov (.const (.bool false)), none⟩] [2])
    .ret)
    .skip))
  (.seq (.seq (.region [
    ⟨some 32, .faddr (.tmp 1) 1, none⟩,
    ⟨some 33, .load (.tmp 32) 1 false .plain, none⟩,
    ⟨some 34, .len false (.tmp 33), none⟩,
    ⟨some 35, .mov (.const (.int .i64 0)), none⟩] [1, 33, 34, 35])
  (.block 0
    (.loop [1, 33, 34, 35] c23b0)))
  (.seq (.region [
    ⟨some 88, .mkmap false, none⟩,
    ⟨some 5, .mov (.tmp 88), none⟩] [1, 5])
  (.seq (.seq (.region [
    ⟨some 89, .faddr (.tmp 1) 2, none⟩,
    ⟨some 90, .load (.tmp 89) 1 false .plain, none⟩,
    ⟨some 91, .len false (.tmp 90), none⟩,
    ⟨some 92, .mov (.const (.int .i64 0)), none⟩] [1, 5, 90, 91, 92])
  (.block 2
    (.loop [1, 5, 90, 91, 92] c23b2)))
  (.seq (.region [
    ⟨some 2, .mov (.const (.bool true)), none⟩] [2])
  .ret))))))⟩
-- spec.MateLandOk
def c24b0 : CCode := (.seq (.seq (.region [
    ⟨some 21, .mov (.tmp 3), none⟩,
    ⟨some 22, .faddr (.tmp 1) 1, none⟩,
    ⟨some 23, .load (.tmp 22) 1 false .plain, none⟩,
    ⟨some 24, .len false (.tmp 23), none⟩,
    ⟨some 25, .bin .lss (.tmp 21) (.tmp 24), none⟩] [1, 3, 25])
  (.cond (.tmp 25)
    .skip
    (.exit 0)))
  (.seq (.block 1
    (.seq (.region [
      ⟨some 28, .faddr (.tmp 1) 1, none⟩,
      ⟨some 29, .load (.tmp 28) 1 false .plain, none⟩,
      ⟨some 30, .mov (.tmp 3), none⟩,
      ⟨some 31, .iaddr 5 (.tmp 29) (.tmp 30), none⟩,
      ⟨some 32, .load (.tmp 31) 5 true .plain, none⟩,
      ⟨some 4, .alloc [.str ⟨#[]⟩, .str ⟨#[]⟩, .str ⟨#[]⟩, .int .i64 0, .int .i64 0], none⟩,
      ⟨none, .store (.tmp 4) (.tmp 32) 5, none⟩] [1, 3, 4])
    (.seq (.quiet [
      ⟨some 33, .faddr (.tmp 4) 0, none⟩,
      ⟨some 34, .load (.tmp 33) 1 false .plain, none⟩,
      ⟨some 35, .call 100 [false] [.tmp 34], none⟩,
      ⟨some 36, .un .not (.tmp 35), none⟩,
      ⟨some 37, .mov (.tmp 36), none⟩,
      ⟨some 38, .faddr (.tmp 4) 1, some (37, false)⟩,
      ⟨some 39, .load (.tmp 38) 1 false .plain, some (37, false)⟩,
      ⟨some 40, .call 101 [false] [.tmp 39], some (37, false)⟩,
      ⟨some 41, .un .not (.tmp 40), some (37, false)⟩,
      ⟨some 42, .pick (.tmp 37) (.const (.bool true)) (.tmp 41), none⟩,
      ⟨some 43, .mov (.tmp 42), none⟩,
      ⟨some 44, .faddr (.tmp 4) 2, some (43, false)⟩,
      ⟨some 45, .load (.tmp 44) 1 false .plain, some (43, false)⟩,
      ⟨some 46, .call 101 [false] [.tmp 45], some (43, false)⟩,
      ⟨some 47, .un .not (.tmp 46), some (43, false)⟩,
      ⟨some 48, .pick (.tmp 43) (.const (.bool true)) (.tmp 47), none⟩,
      ⟨some 49, .mov (.tmp 48), none⟩,
      ⟨some 50, .faddr (.tmp 4) 3, some (49, false)⟩,
      ⟨some 51, .load (.tmp 50) 1 false .plain, some (49, false)⟩,
      ⟨some 52, .call 102 [false, false, false] [.tmp 51, .const (.int .i64 0), .const (.int .i64 1000000)], some (49, false)⟩,
      ⟨some 53, .un .not (.tmp 52), some (49, false)⟩,
      ⟨some 54, .pick (.tmp 49) (.const (.bool true)) (.tmp 53), none⟩,
      ⟨some 55, .mov (.tmp 54), none⟩,
      ⟨some 56, .faddr (.tmp 4) 4, some (55, false)⟩,
      ⟨some 57, .load (.tmp 56) 1 false .plain, some (55, false)⟩,
      ⟨some 58, .faddr (.tmp 1) 0, some (55, false)⟩,
      ⟨some 59, .load (.tmp 58) 1 false .plain, some (55, false)⟩,
      ⟨some 60, .bin .add (.tmp 59) (.const (.int .i64 32)), some (55, false)⟩,
      ⟨some 61, .call 102 [false, false, false] [.tmp 57, .const (.int .i64 0), .tmp 60], some (55, false)⟩,
      ⟨some 62, .un .not (.tmp 61), some (55, false)⟩,
      ⟨some 63, .pick (.tmp 55) (.const (.bool true)) (.tmp 62), none⟩,
      ⟨some 64, .mov (.tmp 63), none⟩,
      ⟨some 65, .mov (.tmp 3), some (64, false)⟩,
      ⟨some 66, .bin .gtr (.tmp 65) (.const (.int .i64 0)), some (64, false)⟩,
      ⟨some 67, .mov (.tmp 66), some (64, false)⟩,
      ⟨some 68, .faddr (.tmp 1) 1, some (67, true)⟩,
      ⟨some 69, .load (.tmp 68) 1 false .plain, some (67, true)⟩,
      ⟨some 70, .mov (.tmp 3), some (67, true)⟩,
      ⟨some 71, .bin .sub (.tmp 70) (.const (.int .i64 1)), some (67, true)⟩,
      ⟨some 72, .iaddr 5 (.tmp 69) (.tmp 71), some (67, true)⟩,
      ⟨some 73, .faddr (.tmp 72) 0, some (67, true)⟩,
      ⟨some 74, .load (.tmp 73) 1 false .plain, some (67, true)⟩,
      ⟨some 75, .faddr (.tmp 4) 0, some (67, true)⟩,
      ⟨some 76, .load (.tmp 75) 1 false .plain, some (67, true)⟩,
      ⟨some 77, .bin .geq (.tmp 74) (.tmp 76), some (67, true)⟩,
      ⟨some 78, .pick (.tmp 67) (.tmp 77) (.const (.bool false)), some (64, false)⟩,
      ⟨some 79, .pick (.tmp 64) (.const (.bool true)) (.tmp 78), none⟩] [1, 3, 79])
    (.cond (.tmp 79)
      (.seq (.region [
        ⟨some 2, .mov (.const (.bool false)), none⟩] [2])
      .ret)
      .skip))))
  (.region [
    ⟨some 26, .mov (.tmp 3), none⟩,
    ⟨some 27, .bin .add (.tmp 26) (.const (.int .i64 1)), none⟩,
    ⟨some 3, .mov (.tmp 27), none⟩] [1, 3])))
def c24 : CFn := ⟨83, [.tmp 2],
  (.seq (.region [
    ⟨some 1, .box (.tmp 0), none⟩,
    ⟨some 2, .mov (.const (.bool false)), none⟩] [1])
  (.seq (.seq (.region [
    ⟨some 5, .faddr (.tmp 1) 0, none⟩,
    ⟨some 6, .load (.tmp 5) 1 false .plain, none⟩,
    ⟨some 7, .call 102 [false, false, false] [.tmp 6, .const (.int .i64 0), .const (.int .i64 2000000)], none⟩,
    ⟨some 8, .un .not (.tmp 7), none⟩,
    ⟨some 9, .mov (.tmp 8), none⟩,
    ⟨some 10, .faddr (.tmp 1) 0, some (9, false)⟩,
    ⟨some 11, .load (.tmp 10) 1 false .plain, some (9, false)⟩,
    ⟨some 12, .bin .rem (.tmp 11) (.const (.int .i64 2)), some (9, false)⟩,
    ⟨some 13, .bin .neq (.tmp 12) (.const (.int .i64 0)), some (9, false)⟩,
    ⟨some 14, .pick (.tmp 9) (.const (.bool true)) (.tmp 13), none⟩,
    ⟨some 15, .mov (.tmp 14), none⟩,
    ⟨some 16, .faddr (.tmp 1) 1, some (15, false)⟩,
    ⟨some 17, .load (.tmp 16) 1 false .plain, some (15, false)⟩,
    ⟨some 18, .len false (.tmp 17), some (15, false)⟩,
    ⟨some 19, .bin .gtr (.tmp 18) (.const (.int .i64 40)), some (15, false)⟩,
    ⟨some 20, .pick (.tmp 15) (.const (.bool true)) (.tmp 19), none⟩] [1, 20])
  (.cond (.tmp 20)
    (.seq (.region [
      ⟨some 2, .mov (.const (.bool false)), none⟩] [2])
    .ret)
    .skip))
  (.seq (.seq (.region [
    ⟨some 3, .mov (.const (.int .i64 0)), none⟩] [1, 3])
  (.block 0
    (.loop [1, 3] c24b0)))
  (.seq (.region [
    ⟨some 80, .faddr (.tmp 1) 2, none⟩,
    ⟨some 81, .load (.tmp 80) 1 false .plain, none⟩,
    ⟨some 82, .call 99 [false] [.tmp 81], none⟩,
    ⟨some 2, .mov (.tmp 82), none⟩] [2])
  .ret))))⟩
-- laws.szMateLand
def c25 : CFn := ⟨18, [.tmp 4],
  (.seq (.region [
    ⟨some 2, .box (.tmp 0), none⟩,
    ⟨some 4, .mov (.const (.int .i64 0)), none⟩] [1, 2])
  (.seq (.region [
    ⟨some 5, .faddr (.tmp 2) 1, none⟩,
    ⟨some 6, .load (.tmp 5) 1 false .plain, none⟩,
    ⟨some 7, .mov (.tmp 1), none⟩,
    ⟨some 8, .call 98 [false, false] [.tmp 6, .tmp 7], none⟩,
    ⟨some 1, .mov (.tmp 8), none⟩] [1, 2])
  (.seq (.seq (.region [
    ⟨some 9, .mov (.tmp 1), none⟩,
    ⟨some 10, .bin .lss (.tmp 9) (.const (.int .i64 0)), none⟩] [1, 2, 10])
  (.cond (.tmp 10)
    (.seq (.region [
      ⟨some 4, .mov (.const (.int .i64 (-1))), none⟩] [4])
    .ret)
    .skip))
  (.seq (.region [
    ⟨some 11, .faddr (.tmp 2) 2, none⟩,
    ⟨some 12, .load (.tmp 11) 1 false .plain, none⟩,
    ⟨some 13, .mov (.tmp 1), none⟩,
    ⟨some 14, .call 97 [false, false] [.tmp 12, .tmp 13], none⟩,
    ⟨some 1, .mov (.tmp 14), none⟩] [1])
  (.seq (.seq (.region [
    ⟨some 15, .mov (.tmp 1), none⟩,
    ⟨some 16, .bin .lss (.tmp 15) (.const (.int .i64 0)), none⟩] [1, 16])
  (.cond (.tmp 16)
    (.seq (.region [
      ⟨some 4, .mov (.const (.int .i64 (-1))), none⟩] [4])
    .ret)
    .skip))
  (.seq (.region [
    ⟨some 17, .mov (.tmp 1), none⟩,
    ⟨some 4, .mov (.tmp 17), none⟩] [4])
  .ret))))))⟩
-- laws.heldMateLand
def c39 : CFn := ⟨18, [.tmp 4],
  (.seq (.region [
    ⟨some 2, .box (.tmp 0), none⟩,
    ⟨some 4, .mov (.const (.int .i64 0)), none⟩] [1, 2])
  (.seq (.region [
    ⟨some 5, .faddr (.tmp 2) 1, none⟩,
    ⟨some 6, .load (.tmp 5) 1 false .plain, none⟩,
    ⟨some 7, .mov (.tmp 1), none⟩,
    ⟨some 8, .call 126 [false, false] [.tmp 6, .tmp 7], none⟩,
    ⟨some 1, .mov (.tmp 8), none⟩] [1, 2])
  (.seq (.seq (.region [
    ⟨some 9, .mov (.tmp 1), none⟩,
    ⟨some 10, .bin .lss (.tmp 9) (.const (.int .i64 0)), none⟩] [1, 2, 10])
  (.cond (.tmp 10)
    (.seq (.region [
      ⟨some 4, .mov (.const (.int .i64 (-1))), none⟩] [4])
    .ret)
    .skip))
  (.seq (.region [
    ⟨some 11, .faddr (.tmp 2) 2, none⟩,
    ⟨some 12, .load (.tmp 11) 1 false .plain, none⟩,
    ⟨some 13, .mov (.tmp 1), none⟩,
    ⟨some 14, .call 125 [false, false] [.tmp 12, .tmp 13], none⟩,
    ⟨some 1, .mov (.tmp 14), none⟩] [1])
  (.seq (.seq (.region [
    ⟨some 15, .mov (.tmp 1), none⟩,
    ⟨some 16, .bin .lss (.tmp 15) (.const (.int .i64 0)), none⟩] [1, 16])
  (.cond (.tmp 16)
    (.seq (.region [
      ⟨some 4, .mov (.const (.int .i64 (-1))), none⟩] [4])
    .ret)
    .skip))
  (.seq (.region [
    ⟨some 17, .mov (.tmp 1), none⟩,
    ⟨some 4, .mov (.tmp 17), none⟩] [4])
  .ret))))))⟩
-- laws.markMateLand
def c43 : CFn := ⟨14, [.tmp 4],
  (.seq (.region [
    ⟨some 2, .box (.tmp 0), none⟩,
    ⟨some 4, .mov (.const (.int .i64 0)), none⟩] [1, 2])
  (.seq (.region [
    ⟨some 5, .faddr (.tmp 2) 1, none⟩,
    ⟨some 6, .load (.tmp 5) 1 false .plain, none⟩,
    ⟨some 7, .mov (.tmp 1), none⟩,
    ⟨some 8, .call 124 [true, false] [.tmp 6, .tmp 7], none⟩,
    ⟨some 1, .mov (.tmp 8), none⟩] [1, 2])
  (.seq (.region [
    ⟨some 9, .faddr (.tmp 2) 2, none⟩,
    ⟨some 10, .load (.tmp 9) 1 false .plain, none⟩,
    ⟨some 11, .mov (.tmp 1), none⟩,
    ⟨some 12, .call 123 [true, false] [.tmp 10, .tmp 11], none⟩,
    ⟨some 1, .mov (.tmp 12), none⟩] [1])
  (.seq (.region [
    ⟨some 13, .mov (.tmp 1), none⟩,
    ⟨some 4, .mov (.tmp 13), none⟩] [4])
  .ret))))⟩
-- impl.MatePut
def c70b0 : CCode := (.seq (.region [
    ⟨some 36, .bin .lss (.tmp 35) (.tmp 34), none⟩] [1, 3, 6, 8, 9, 10, 34, 35, 36])
  (.seq (.cond (.tmp 36)
    .skip
    (.exit 0))
  (.seq (.block 1
    (.seq (.region [
      ⟨some 37, .mov (.tmp 35), none⟩,
      ⟨some 11, .mov (.tmp 37), none⟩] [1, 3, 6, 8, 9, 10, 11, 34, 35])
    (.seq (.region [
      ⟨some 38, .faddr (.tmp 8) 2, none⟩,
      ⟨some 39, .load (.tmp 38) 1 false .plain, none⟩,
      ⟨some 40, .mov (.tmp 11), none⟩,
      ⟨some 41, .iaddr 3 (.tmp 39) (.tmp 40), none⟩,
      ⟨some 42, .faddr (.tmp 41) 0, none⟩,
      ⟨some 43, .load (.tmp 42) 1 false .plain, none⟩,
      ⟨some 44, .mov (.tmp 1), none⟩,
      ⟨some 45, .bin .eql (.tmp 43) (.tmp 44), none⟩] [1, 3, 6, 8, 9, 10, 11, 34, 35, 45])
    (.cond (.tmp 45)
      (.region [
        ⟨some 46, .mov (.tmp 11), none⟩,
        ⟨some 10, .mov (.tmp 46), none⟩] [1, 3, 6, 8, 9, 10, 34, 35])
      .skip))))
  (.region [
    ⟨some 47, .bin .add (.tmp 35) (.const (.int .i64 1)), none⟩,
    ⟨some 35, .mov (.tmp 47), none⟩] [1, 3, 6, 8, 9, 10, 34, 35]))))
def c70 : CFn := ⟨80, [.cell 6 3 true, .tmp 7],
  (.seq (.region [
    ⟨some 3, .box (.tmp 0), none⟩,
    ⟨some 6, .alloc [.int .i64 0, .sl .own 5 [], .sl .own 3 []], none⟩,
    ⟨some 7, .mov (.const (.int .i64 0)), none⟩] [1, 2, 3, 6])
  (.seq (.seq (.region [
    ⟨some 12, .load (.tmp 3) 3 true .plain, none⟩,
    ⟨some 13, .call 23 [false] [.tmp 12], none⟩,
    ⟨some 14, .un .not (.tmp 13), none⟩] [1, 2, 3, 6, 14])
  (.cond (.tmp 14)
    (.seq (.region [
      ⟨some 15, .build [.int .i64 0, .sl .own 5 [], .sl .own 3 []] [], none⟩,
      ⟨none, .store (.tmp 6) (.tmp 15) 3, none⟩,
      ⟨some 7, .mov (.const (.int .i64 1)), none⟩] [6, 7])
    .ret)
    .skip))
  (.seq (.seq (.region [
    ⟨some 16, .mov (.tmp 1), none⟩,
    ⟨some 17, .call 105 [false] [.tmp 16], none⟩,
    ⟨some 18, .un .not (.tmp 17), none⟩,
    ⟨some 19, .mov (.tmp 18), none⟩,
    ⟨some 20, .mov (.tmp 2), some (19, false)⟩,
    ⟨some 21, .call 6 [false] [.tmp 20], some (19, false)⟩,
    ⟨some 22, .un .not (.tmp 21), some (19, false)⟩,
    ⟨some 23, .pick (.tmp 19) (.const (.bool true)) (.tmp 22), none⟩] [1, 2, 3, 6, 23])
  (.cond (.tmp 23)
    (.seq (.region [
      ⟨some 24, .load (.tmp 3) 3 true .plain, none⟩,
      ⟨some 25, .call 122 [false] [.tmp 24], none⟩,
      ⟨none, .store (.tmp 6) (.tmp 25) 3, none⟩,
      ⟨some 7, .mov (.const (.int .i64 2)), none⟩] [6, 7])
    .ret)
    .skip))
  (.seq (.region [
    ⟨some 26, .load (.tmp 3) 3 true .plain, none⟩,
    ⟨some 27, .call 122 [false] [.tmp 26], none⟩,
    ⟨some 8, .alloc [.int .i64 0, .sl .own 5 [], .sl .own 3 []], none⟩,
    ⟨none, .store (.tmp 8) (.tmp 27) 3, none⟩] [1, 2, 3, 6, 8])
  (.seq (.region [
    ⟨some 28, .mov (.tmp 1), none⟩,
    ⟨some 29, .mov (.tmp 2), none⟩,
    ⟨some 30, .append 7 72 true (.const (.sl .own 7 [])) (.tmp 29), none⟩,
    ⟨some 31, .build [.str ⟨#[]⟩, .int .i64 0, .sl .own 7 []] [(0, 1, .tmp 28), (1, 1, .const (.int .i64 1)), (2, 1, .tmp 30)], none⟩,
    ⟨some 9, .alloc [.str ⟨#[]⟩, .int .i64 0, .sl .own 7 []], none⟩,
    ⟨none, .store (.tmp 9) (.tmp 31) 3, none⟩] [1, 3, 6, 8, 9])
  (.seq (.region [
    ⟨some 10, .mov (.const (.int .i64 (-1))), none⟩] [1, 3, 6, 8, 9, 10])
  (.seq (.seq (.region [
    ⟨some 32, .faddr (.tmp 8) 2, none⟩,
    ⟨some 33, .load (.tmp 32) 1 false .plain, none⟩,
    ⟨some 34, .len false (.tmp 33), none⟩,
    ⟨some 35, .mov (.const (.int .i64 0)), none⟩] [1, 3, 6, 8, 9, 10, 34, 35])
  (.block 0
    (.loop [1, 3, 6, 8, 9, 10, 34, 35] c70b0)))
  (.seq (.seq (.region [
    ⟨some 48, .mov (.tmp 10), none⟩,
    ⟨some 49, .bin .geq (.tmp 48) (.const (.int .i64 0)), none⟩] [3, 6, 8, 9, 10, 49])
  (.cond (.tmp 49)
    (.seq (.region [
      ⟨some 50, .faddr (.tmp 8) 2, none⟩,
      ⟨some 51, .load (.tmp 50) 1 false .plain, none⟩,
      ⟨some 52, .mov (.tmp 10), none⟩,
      ⟨some 53, .iaddr 3 (.tmp 51) (.tmp 52), none⟩,
      ⟨some 54, .faddr (.tmp 53) 1, none⟩,
      ⟨some 55, .load (.tmp 54) 1 false .plain, none⟩,
      ⟨some 56, .bin .add (.tmp 55) (.const (.int .i64 1)), none⟩,
      ⟨some 57, .faddr (.tmp 9) 1, none⟩,
      ⟨none, .store (.tmp 57) (.tmp 56) 1, none⟩] [3, 6, 8, 9, 10])
    (.region [
      ⟨some 58, .faddr (.tmp 8) 2, none⟩,
      ⟨some 59, .load (.tmp 58) 1 false .plain, none⟩,
      ⟨some 60, .mov (.tmp 10), none⟩,
      ⟨some 61, .load (.tmp 9) 3 true .plain, none⟩,
      ⟨some 62, .iaddr 3 (.tmp 59) (.tmp 60), none⟩,
      ⟨none, .store (.tmp 62) (.tmp 61) 3, none⟩] [3, 6, 8]))
    (.seq (.region [
      ⟨some 63, .faddr (.tmp 8) 2, none⟩,
      ⟨some 64, .load (.tmp 63) 1 false .plain, none⟩,
      ⟨some 65, .load (.tmp 9) 3 true .plain, none⟩,
      ⟨some 66, .bslice 3 [.str ⟨#[]⟩, .int .i64 0, .sl .own 7 []] 1 [(0, .tmp 65)], none⟩,
      ⟨some 67, .append 3 48 false (.tmp 64) (.tmp 66), none⟩,
      ⟨some 68, .faddr (.tmp 8) 2, none⟩,
      ⟨none, .store (.tmp 68) (.tmp 67) 1, none⟩] [3, 6, 8])
    (.region [
      ⟨some 69, .faddr (.tmp 8) 2, none⟩,
      ⟨some 70, .load (.tmp 69) 1 false .plain, none⟩,
      ⟨some 71, .mkifs 183 (.tmp 70), none⟩,
      ⟨some 72, .mkclo 183 (.tmp 8), none⟩,
      ⟨some 73, .sortc 183 2 0 3 (.tmp 71) (.tmp 72), none⟩] [3, 6, 8]))))
  (.seq (.seq (.region [
    ⟨some 74, .load (.tmp 8) 3 true .plain, none⟩,
    ⟨some 75, .call 23 [false] [.tmp 74], none⟩,
    ⟨some 76, .un .not (.tmp 75), none⟩] [3, 6, 8, 76])
  (.cond (.tmp 76)
    (.seq (.region [
      ⟨some 77, .load (.tmp 3) 3 true .plain, none⟩,
      ⟨some 78, .call 122 [false] [.tmp 77], none⟩,
      ⟨none, .store (.tmp 6) (.tmp 78) 3, none⟩,
      ⟨some 7, .mov (.const (.int .i64 3)), none⟩] [6, 7])
    .ret)
    .skip))
  (.seq (.region [
    ⟨some 79, .load (.tmp 8) 3 true .plain, none⟩,
    ⟨none, .store (.tmp 6) (.tmp 79) 3, none⟩,
    ⟨some 7, .mov (.const (.int .i64 0)), none⟩] [6, 7])
  .ret))))))))))⟩
-- laws.markMateWantS
def c71b0 : CCode := (.seq (.seq (.region [
    ⟨some 6, .mov (.tmp 5), none⟩,
    ⟨some 7, .mov (.tmp 0), none⟩,
    ⟨some 8, .len false (.tmp 7), none⟩,
    ⟨some 9, .bin .lss (.tmp 6) (.tmp 8), none⟩] [0, 1, 5, 9])
  (.cond (.tmp 9)
    .skip
    (.exit 0)))
  (.seq (.block 1
    (.seq (.region [
      ⟨some 12, .mov (.tmp 0), none⟩,
      ⟨some 13, .mov (.tmp 5), none⟩,
      ⟨some 14, .mov (.tmp 1), none⟩,
      ⟨some 15, .call 96 [false] [.tmp 14], none⟩,
      ⟨some 16, .iaddr 7 (.tmp 12) (.tmp 13), none⟩,
      ⟨some 17, .faddr (.tmp 16) 0, none⟩,
      ⟨none, .store (.tmp 17) (.tmp 15) 1, none⟩] [0, 1, 5])
    (.seq (.region [
      ⟨some 18, .mov (.tmp 1), none⟩,
      ⟨some 19, .bin .add (.tmp 18) (.const (.int .i64 1)), none⟩,
      ⟨some 1, .mov (.tmp 19), none⟩] [0, 1, 5])
    (.seq (.region [
      ⟨some 20, .mov (.tmp 0), none⟩,
      ⟨some 21, .mov (.tmp 5), none⟩,
      ⟨some 22, .mov (.tmp 1), none⟩,
      ⟨some 23, .iaddr 7 (.tmp 20) (.tmp 21), none⟩,
      ⟨some 24, .faddr (.tmp 23) 1, none⟩,
      ⟨none, .store (.tmp 24) (.tmp 22) 1, none⟩] [0, 1, 5])
    (.seq (.region [
      ⟨some 25, .mov (.tmp 1), none⟩,
      ⟨some 26, .bin .add (.tmp 25) (.const (.int .i64 1)), none⟩,
      ⟨some 1, .mov (.tmp 26), none⟩] [0, 1, 5])
    (.seq (.region [
      ⟨some 27, .mov (.tmp 0), none⟩,
      ⟨some 28, .mov (.tmp 5), none⟩,
      ⟨some 29, .mov (.tmp 1), none⟩,
      ⟨some 30, .call 96 [false] [.tmp 29], none⟩,
      ⟨some 31, .iaddr 7 (.tmp 27) (.tmp 28), none⟩,
      ⟨some 32, .faddr (.tmp 31) 2, none⟩,
      ⟨none, .store (.tmp 32) (.tmp 30) 1, none⟩] [0, 1, 5])
    (.seq (.region [
      ⟨some 33, .mov (.tmp 1), none⟩,
      ⟨some 34, .bin .add (.tmp 33) (.const (.int .i64 1)), none⟩,
      ⟨some 1, .mov (.tmp 34), none⟩] [0, 1, 5])
    (.seq (.region [
      ⟨some 35, .mov (.tmp 0), none⟩,
      ⟨some 36, .mov (.tmp 5), none⟩,
      ⟨some 37, .mov (.tmp 1), none⟩,
      ⟨some 38, .iaddr 7 (.tmp 35) (.tmp 36), none⟩,
      ⟨some 39, .faddr (.tmp 38) 3, none⟩,
      ⟨none, .store (.tmp 39) (.tmp 37) 1, none⟩] [0, 1, 5])
    (.seq (.region [
      ⟨some 40, .mov (.tmp 1), none⟩,
      ⟨some 41, .bin .add (.tmp 40) (.const (.int .i64 1)), none⟩,
      ⟨some 1, .mov (.tmp 41), none⟩] [0, 1, 5])
    (.seq (.region [
      ⟨some 42, .mov (.tmp 0), none⟩,
      ⟨some 43, .mov (.tmp 5), none⟩,
      ⟨some 44, .mov (.tmp 1), none⟩,
      ⟨some 45, .iaddr 7 (.tmp 42) (.tmp 43), none⟩,
      ⟨some 46, .faddr (.tmp 45) 4, none⟩,
      ⟨none, .store (.tmp 46) (.tmp 44) 1, none⟩] [0, 1, 5])
    (.seq (.region [
      ⟨some 47, .mov (.tmp 1), none⟩,
      ⟨some 48, .bin .add (.tmp 47) (.const (.int .i64 1)), none⟩,
      ⟨some 1, .mov (.tmp 48), none⟩] [0, 1, 5])
    (.seq (.region [
      ⟨some 49, .mov (.tmp 0), none⟩,
      ⟨some 50, .mov (.tmp 5), none⟩,
      ⟨some 51, .mov (.tmp 1), none⟩,
      ⟨some 52, .iaddr 7 (.tmp 49) (.tmp 50), none⟩,
      ⟨some 53, .faddr (.tmp 52) 5, none⟩,
      ⟨none, .store (.tmp 53) (.tmp 51) 1, none⟩] [0, 1, 5])
    (.seq (.region [
      ⟨some 54, .mov (.tmp 1), none⟩,
      ⟨some 55, .bin .add (.tmp 54) (.const (.int .i64 1)), none⟩,
      ⟨some 1, .mov (.tmp 55), none⟩] [0, 1, 5])
    (.seq (.region [
      ⟨some 56, .mov (.tmp 0), none⟩,
      ⟨some 57, .mov (.tmp 5), none⟩,
      ⟨some 58, .mov (.tmp 1), none⟩,
      ⟨some 59, .iaddr 7 (.tmp 56) (.tmp 57), none⟩,
      ⟨some 60, .faddr (.tmp 59) 6, none⟩,
      ⟨none, .store (.tmp 60) (.tmp 58) 1, none⟩] [0, 1, 5])
    (.region [
      ⟨some 61, .mov (.tmp 1), none⟩,
      ⟨some 62, .bin .add (.tmp 61) (.const (.int .i64 1)), none⟩,
      ⟨some 1, .mov (.tmp 62), none⟩] [0, 1, 5])))))))))))))))
  (.region [
    ⟨some 10, .mov (.tmp 5), none⟩,
    ⟨some 11, .bin .add (.tmp 10) (.const (.int .i64 1)), none⟩,
    ⟨some 5, .mov (.tmp 11), none⟩] [0, 1, 5])))
def c71 : CFn := ⟨64, [.tmp 4],
  (.seq (.region [
    ⟨some 4, .mov (.const (.int .i64 0)), none⟩] [0, 1])
  (.seq (.seq (.region [
    ⟨some 5, .mov (.const (.int .i64 0)), none⟩] [0, 1, 5])
  (.block 0
    (.loop [0, 1, 5] c71b0)))
  (.seq (.region [
    ⟨some 63, .mov (.tmp 1), none⟩,
    ⟨some 4, .mov (.tmp 63), none⟩] [4])
  .ret)))⟩
-- spec.MatePut
def c72b0 : CCode := (.seq (.seq (.region [
    ⟨some 28, .mov (.tmp 9), none⟩,
    ⟨some 29, .faddr (.tmp 8) 2, none⟩,
    ⟨some 30, .load (.tmp 29) 1 false .plain, none⟩,
    ⟨some 31, .len false (.tmp 30), none⟩,
    ⟨some 32, .bin .lss (.tmp 28) (.tmp 31), none⟩,
    ⟨some 33, .mov (.tmp 32), none⟩,
    ⟨some 34, .faddr (.tmp 8) 2, some (33, true)⟩,
    ⟨some 35, .load (.tmp 34) 1 false .plain, some (33, true)⟩,
    ⟨some 36, .mov (.tmp 9), some (33, true)⟩,
    ⟨some 37, .iaddr 3 (.tmp 35) (.tmp 36), some (33, true)⟩,
    ⟨some 38, .faddr (.tmp 37) 0, some (33, true)⟩,
    ⟨some 39, .load (.tmp 38) 1 false .plain, some (33, true)⟩,
    ⟨some 40, .mov (.tmp 1), some (33, true)⟩,
    ⟨some 41, .bin .lss (.tmp 39) (.tmp 40), some (33, true)⟩,
    ⟨some 42, .pick (.tmp 33) (.tmp 41) (.const (.bool false)), none⟩] [1, 2, 3, 6, 8, 9, 42])
  (.cond (.tmp 42)
    .skip
    (.exit 0)))
  (.block 1
    (.region [
      ⟨some 43, .mov (.tmp 9), none⟩,
      ⟨some 44, .bin .add (.tmp 43) (.const (.int .i64 1)), none⟩,
      ⟨some 9, .mov (.tmp 44), none⟩] [1, 2, 3, 6, 8, 9])))
def c72 : CFn := ⟨91, [.cell 6 3 true, .tmp 7],
  (.seq (.region [
    ⟨some 3, .box (.tmp 0), none⟩,
    ⟨some 6, .alloc [.int .i64 0, .sl .own 5 [], .sl .own 3 []], none⟩,
    ⟨some 7, .mov (.const (.int .i64 0)), none⟩] [1, 2, 3, 6])
  (.seq (.seq (.region [
    ⟨some 12, .load (.tmp 3) 3 true .plain, none⟩,
    ⟨some 13, .call 24 [false] [.tmp 12], none⟩,
    ⟨some 14, .un .not (.tmp 13), none⟩] [1, 2, 3, 6, 14])
  (.cond (.tmp 14)
    (.seq (.region [
      ⟨some 15, .build [.int .i64 0, .sl .own 5 [], .sl .own 3 []] [], none⟩,
      ⟨none, .store (.tmp 6) (.tmp 15) 3, none⟩,
      ⟨some 7, .mov (.const (.int .i64 1)), none⟩] [6, 7])
    .ret)
    .skip))
  (.seq (.seq (.region [
    ⟨some 16, .mov (.tmp 1), none⟩,
    ⟨some 17, .call 101 [false] [.tmp 16], none⟩,
    ⟨some 18, .un .not (.tmp 17), none⟩,
    ⟨some 19, .mov (.tmp 18), none⟩,
    ⟨some 20, .mov (.tmp 2), some (19, false)⟩,
    ⟨some 21, .call 7 [false] [.tmp 20], some (19, false)⟩,
    ⟨some 22, .un .not (.tmp 21), some (19, false)⟩,
    ⟨some 23, .pick (.tmp 19) (.const (.bool true)) (.tmp 22), none⟩] [1, 2, 3, 6, 23])
  (.cond (.tmp 23)
    (.seq (.region [
      ⟨some 24, .load (.tmp 3) 3 true .plain, none⟩,
      ⟨some 25, .call 121 [false] [.tmp 24], none⟩,
      ⟨none, .store (.tmp 6) (.tmp 25) 3, none⟩,
      ⟨some 7, .mov (.const (.int .i64 2)), none⟩] [6, 7])
    .ret)
    .skip))
  (.seq (.region [
    ⟨some 26, .load (.tmp 3) 3 true .plain, none⟩,
    ⟨some 27, .call 121 [false] [.tmp 26], none⟩,
    ⟨some 8, .alloc [.int .i64 0, .sl .own 5 [], .sl .own 3 []], none⟩,
    ⟨none, .store (.tmp 8) (.tmp 27) 3, none⟩] [1, 2, 3, 6, 8])
  (.seq (.region [
    ⟨some 9, .mov (.const (.int .i64 0)), none⟩] [1, 2, 3, 6, 8, 9])
  (.seq (.block 0
    (.loop [1, 2, 3, 6, 8, 9] c72b0))
  (.seq (.region [
    ⟨some 45, .mov (.tmp 1), none⟩,
    ⟨some 46, .bslice 7 [.str ⟨#[]⟩, .int .i64 0, .str ⟨#[]⟩, .int .i64 0, .int .i64 0, .int .i64 0, .int .i64 0] 0 [], none⟩,
    ⟨some 47, .mov (.tmp 2), none⟩,
    ⟨some 48, .append 7 72 true (.tmp 46) (.tmp 47), none⟩,
    ⟨some 49, .build [.str ⟨#[]⟩, .int .i64 0, .sl .own 7 []] [(0, 1, .tmp 45), (1, 1, .const (.int .i64 1)), (2, 1, .tmp 48)], none⟩,
    ⟨some 10, .alloc [.str ⟨#[]⟩, .int .i64 0, .sl .own 7 []], none⟩,
    ⟨none, .store (.tmp 10) (.tmp 49) 3, none⟩] [1, 3, 6, 8, 9, 10])
  (.seq (.region [
    ⟨some 50, .faddr (.tmp 8) 2, none⟩,
    ⟨some 51, .load (.tmp 50) 1 false .plain, none⟩,
    ⟨some 52, .mov (.tmp 9), none⟩,
    ⟨some 53, .slice 3 (.tmp 51) (some (.tmp 52)) none, none⟩,
    ⟨some 11, .mov (.tmp 53), none⟩] [1, 3, 6, 8, 9, 10, 11])
  (.seq (.seq (.region [
    ⟨some 54, .mov (.tmp 11), none⟩,
    ⟨some 55, .len false (.tmp 54), none⟩,
    ⟨some 56, .bin .gtr (.tmp 55) (.const (.int .i64 0)), none⟩,
    ⟨some 57, .mov (.tmp 56), none⟩,
    ⟨some 58, .mov (.tmp 11), some (57, true)⟩,
    ⟨some 59, .iaddr 3 (.tmp 58) (.const (.int .i64 0)), some (57, true)⟩,
    ⟨some 60, .faddr (.tmp 59) 0, some (57, true)⟩,
    ⟨some 61, .load (.tmp 60) 1 false .plain, some (57, true)⟩,
    ⟨some 62, .mov (.tmp 1), some (57, true)⟩,
    ⟨some 63, .bin .eql (.tmp 61) (.tmp 62), some (57, true)⟩,
    ⟨some 64, .pick (.tmp 57) (.tmp 63) (.const (.bool false)), none⟩] [3, 6, 8, 9, 10, 11, 64])
  (.cond (.tmp 64)
    (.seq (.region [
      ⟨some 65, .mov (.tmp 11), none⟩,
      ⟨some 66, .iaddr 3 (.tmp 65) (.const (.int .i64 0)), none⟩,
      ⟨some 67, .faddr (.tmp 66) 1, none⟩,
      ⟨some 68, .load (.tmp 67) 1 false .plain, none⟩,
      ⟨some 69, .bin .add (.tmp 68) (.const (.int .i64 1)), none⟩,
      ⟨some 70, .faddr (.tmp 10) 1, none⟩,
      ⟨none, .store (.tmp 70) (.tmp 69) 1, none⟩] [3, 6, 8, 9, 10, 11])
    (.region [
      ⟨some 71, .mov (.tmp 11), none⟩,
      ⟨some 72, .slice 3 (.tmp 71) (some (.const (.int .i64 1))) none, none⟩,
      ⟨some 11, .mov (.tmp 72), none⟩] [3, 6, 8, 9, 10, 11]))
    .skip))
  (.seq (.loud [
    ⟨some 73, .bslice 3 [.str ⟨#[]⟩, .int .i64 0, .sl .own 7 []] 0 [], none⟩,
    ⟨some 74, .faddr (.tmp 8) 2, none⟩,
    ⟨some 75, .load (.tmp 74) 1 false .plain, none⟩,
    ⟨some 76, .mov (.tmp 9), none⟩,
    ⟨some 77, .slice 3 (.tmp 75) none (some (.tmp 76)), none⟩,
    ⟨some 78, .append 3 48 false (.tmp 73) (.tmp 77), none⟩,
    ⟨some 79, .load (.tmp 10) 3 true .plain, none⟩,
    ⟨some 80, .bslice 3 [.str ⟨#[]⟩, .int .i64 0, .sl .own 7 []] 1 [(0, .tmp 79)], none⟩,
    ⟨some 81, .append 3 48 false (.tmp 78) (.tmp 80), none⟩,
    ⟨some 82, .mov (.tmp 11), none⟩,
    ⟨some 83, .append 3 48 false (.tmp 81) (.tmp 82), none⟩,
    ⟨some 84, .faddr (.tmp 8) 2, none⟩,
    ⟨none, .store (.tmp 84) (.tmp 83) 1, none⟩] [0, 0, 2, 0, 14, 31, 0, 64, 255, 0, 1023, 2047, 4095] [3, 6, 8])
  (.seq (.seq (.region [
    ⟨some 85, .load (.tmp 8) 3 true .plain, none⟩,
    ⟨some 86, .call 24 [false] [.tmp 85], none⟩,
    ⟨some 87, .un .not (.tmp 86), none⟩] [3, 6, 8, 87])
  (.cond (.tmp 87)
    (.seq (.region [
      ⟨some 88, .load (.tmp 3) 3 true .plain, none⟩,
      ⟨some 89, .call 121 [false] [.tmp 88], none⟩,
      ⟨none, .store (.tmp 6) (.tmp 89) 3, none⟩,
      ⟨some 7, .mov (.const (.int .i64 3)), none⟩] [6, 7])
    .ret)
    .skip))
  (.seq (.region [
    ⟨some 90, .load (.tmp 8) 3 true .plain, none⟩,
    ⟨none, .store (.tmp 6) (.tmp 90) 3, none⟩,
    ⟨some 7, .mov (.const (.int .i64 0)), none⟩] [6, 7])
  .ret))))))))))))⟩
-- laws.szMateWant
def c79 : CFn := ⟨20, [.tmp 4],
  (.seq (.region [
    ⟨some 2, .box (.tmp 0), none⟩,
    ⟨some 4, .mov (.const (.int .i64 0)), none⟩] [1, 2])
  (.seq (.region [
    ⟨some 5, .mov (.tmp 1), none⟩,
    ⟨some 6, .faddr (.tmp 2) 0, none⟩,
    ⟨some 7, .load (.tmp 6) 1 false .plain, none⟩,
    ⟨some 8, .len true (.tmp 7), none⟩,
    ⟨some 9, .bin .sub (.tmp 5) (.tmp 8), none⟩,
    ⟨some 1, .mov (.tmp 9), none⟩] [1, 2])
  (.seq (.seq (.region [
    ⟨some 10, .mov (.tmp 1), none⟩,
    ⟨some 11, .bin .lss (.tmp 10) (.const (.int .i64 0)), none⟩] [1, 2, 11])
  (.cond (.tmp 11)
    (.seq (.region [
      ⟨some 4, .mov (.const (.int .i64 (-1))), none⟩] [4])
    .ret)
    .skip))
  (.seq (.region [
    ⟨some 12, .mov (.tmp 1), none⟩,
    ⟨some 13, .faddr (.tmp 2) 2, none⟩,
    ⟨some 14, .load (.tmp 13) 1 false .plain, none⟩,
    ⟨some 15, .len true (.tmp 14), none⟩,
    ⟨some 16, .bin .sub (.tmp 12) (.tmp 15), none⟩,
    ⟨some 1, .mov (.tmp 16), none⟩] [1])
  (.seq (.seq (.region [
    ⟨some 17, .mov (.tmp 1), none⟩,
    ⟨some 18, .bin .lss (.tmp 17) (.const (.int .i64 0)), none⟩] [1, 18])
  (.cond (.tmp 18)
    (.seq (.region [
      ⟨some 4, .mov (.const (.int .i64 (-1))), none⟩] [4])
    .ret)
    .skip))
  (.seq (.region [
    ⟨some 19, .mov (.tmp 1), none⟩,
    ⟨some 4, .mov (.tmp 19), none⟩] [4])
  .ret))))))⟩
-- laws.toMateWant
def c80 : CFn := ⟨26, [.cell 2 7 true],
  (.seq (.region [
    ⟨some 1, .box (.tmp 0), none⟩,
    ⟨some 2, .alloc [.str ⟨#[]⟩, .int .i64 0, .str ⟨#[]⟩, .int .i64 0, .int .i64 0, .int .i64 0, .int .i64 0], none⟩] [1, 2])
  (.seq (.region [
    ⟨some 3, .alloc [.str ⟨#[]⟩, .int .i64 0, .str ⟨#[]⟩, .int .i64 0, .int .i64 0, .int .i64 0, .int .i64 0], none⟩] [1, 2, 3])
  (.seq (.region [
    ⟨some 4, .faddr (.tmp 1) 0, none⟩,
    ⟨some 5, .load (.tmp 4) 1 false .plain, none⟩,
    ⟨some 6, .faddr (.tmp 3) 0, none⟩,
    ⟨none, .store (.tmp 6) (.tmp 5) 1, none⟩] [1, 2, 3])
  (.seq (.region [
    ⟨some 7, .faddr (.tmp 1) 1, none⟩,
    ⟨some 8, .load (.tmp 7) 1 false .plain, none⟩,
    ⟨some 9, .faddr (.tmp 3) 1, none⟩,
    ⟨none, .store (.tmp 9) (.tmp 8) 1, none⟩] [1, 2, 3])
  (.seq (.region [
    ⟨some 10, .faddr (.tmp 1) 2, none⟩,
    ⟨some 11, .load (.tmp 10) 1 false .plain, none⟩,
    ⟨some 12, .faddr (.tmp 3) 2, none⟩,
    ⟨none, .store (.tmp 12) (.tmp 11) 1, none⟩] [1, 2, 3])
  (.seq (.region [
    ⟨some 13, .faddr (.tmp 1) 3, none⟩,
    ⟨some 14, .load (.tmp 13) 1 false .plain, none⟩,
    ⟨some 15, .faddr (.tmp 3) 3, none⟩,
    ⟨none, .store (.tmp 15) (.tmp 14) 1, none⟩] [1, 2, 3])
  (.seq (.region [
    ⟨some 16, .faddr (.tmp 1) 4, none⟩,
    ⟨some 17, .load (.tmp 16) 1 false .plain, none⟩,
    ⟨some 18, .faddr (.tmp 3) 4, none⟩,
    ⟨none, .store (.tmp 18) (.tmp 17) 1, none⟩] [1, 2, 3])
  (.seq (.region [
    ⟨some 19, .faddr (.tmp 1) 5, none⟩,
    ⟨some 20, .load (.tmp 19) 1 false .plain, none⟩,
    ⟨some 21, .faddr (.tmp 3) 5, none⟩,
    ⟨none, .store (.tmp 21) (.tmp 20) 1, none⟩] [1, 2, 3])
  (.seq (.region [
    ⟨some 22, .faddr (.tmp 1) 6, none⟩,
    ⟨some 23, .load (.tmp 22) 1 false .plain, none⟩,
    ⟨some 24, .faddr (.tmp 3) 6, none⟩,
    ⟨none, .store (.tmp 24) (.tmp 23) 1, none⟩] [2, 3])
  (.seq (.region [
    ⟨some 25, .load (.tmp 3) 7 true .plain, none⟩,
    ⟨none, .store (.tmp 2) (.tmp 25) 7, none⟩] [2])
  .ret))))))))))⟩
-- spec.l1WantOk
def c81 : CFn := ⟨41, [.tmp 2],
  (.seq (.region [
    ⟨some 1, .box (.tmp 0), none⟩,
    ⟨some 2, .mov (.const (.bool false)), none⟩] [1])
  (.seq (.region [
    ⟨some 3, .faddr (.tmp 1) 0, none⟩,
    ⟨some 4, .load (.tmp 3) 1 false .plain, none⟩,
    ⟨some 5, .call 101 [false] [.tmp 4], none⟩,
    ⟨some 6, .mov (.tmp 5), none⟩,
    ⟨some 7, .faddr (.tmp 1) 1, some (6, true)⟩,
    ⟨some 8, .load (.tmp 7) 1 false .plain, some (6, true)⟩,
    ⟨some 9, .call 102 [false, false, false] [.tmp 8, .const (.int .i64 1), .const (.int .i64 1000000)], some (6, true)⟩,
    ⟨some 10, .pick (.tmp 6) (.tmp 9) (.const (.bool false)), none⟩,
    ⟨some 11, .mov (.tmp 10), none⟩,
    ⟨some 12, .faddr (.tmp 1) 2, some (11, true)⟩,
    ⟨some 13, .load (.tmp 12) 1 false .plain, some (11, true)⟩,
    ⟨some 14, .bin .eql (.tmp 13) (.const (.str ⟨#[]⟩)), some (11, true)⟩,
    ⟨some 15, .mov (.tmp 14), some (11, true)⟩,
    ⟨some 16, .faddr (.tmp 1) 2, some (15, false)⟩,
    ⟨some 17, .load (.tmp 16) 1 false .plain, some (15, false)⟩,
    ⟨some 18, .call 100 [false] [.tmp 17], some (15, false)⟩,
    ⟨some 19, .pick (.tmp 15) (.const (.bool true)) (.tmp 18), some (11, true)⟩,
    ⟨some 20, .pick (.tmp 11) (.tmp 19) (.const (.bool false)), none⟩,
    ⟨some 21, .mov (.tmp 20), none⟩,
    ⟨some 22, .faddr (.tmp 1) 3, some (21, true)⟩,
    ⟨some 23, .load (.tmp 22) 1 false .plain, some (21, true)⟩,
    ⟨some 24, .call 102 [false, false, false] [.tmp 23, .const (.int .i64 0), .const (.int .i64 100)], some (21, true)⟩,
    ⟨some 25, .pick (.tmp 21) (.tmp 24) (.const (.bool false)), none⟩,
    ⟨some 26, .mov (.tmp 25), none⟩,
    ⟨some 27, .faddr (.tmp 1) 4, some (26, true)⟩,
    ⟨some 28, .load (.tmp 27) 1 false .plain, some (26, true)⟩,
    ⟨some 29, .call 102 [false, false, false] [.tmp 28, .const (.int .i64 0), .const (.int .i64 100)], some (26, true)⟩,
    ⟨some 30, .pick (.tmp 26) (.tmp 29) (.const (.bool false)), none⟩,
    ⟨some 31, .mov (.tmp 30), none⟩,
    ⟨some 32, .faddr (.tmp 1) 5, some (31, true)⟩,
    ⟨some 33, .load (.tmp 32) 1 false .plain, some (31, true)⟩,
    ⟨some 34, .call 102 [false, false, false] [.tmp 33, .const (.int .i64 0), .const (.int .i64 100)], some (31, true)⟩,
    ⟨some 35, .pick (.tmp 31) (.tmp 34) (.const (.bool false)), none⟩,
    ⟨some 36, .mov (.tmp 35), none⟩,
    ⟨some 37, .faddr (.tmp 1) 6, some (36, true)⟩,
    ⟨some 38, .load (.tmp 37) 1 false .plain, some (36, true)⟩,
    ⟨some 39, .call 102 [false, false, false] [.tmp 38, .const (.int .i64 0), .const (.int .i64 100)], some (36, true)⟩,
    ⟨some 40, .pick (.tmp 36) (.tmp 39) (.const (.bool false)), none⟩,
    ⟨some 2, .mov (.tmp 40), none⟩] [2])
  .ret))⟩
-- impl.wantOk
def c82 : CFn := ⟨41, [.tmp 2],
  (.seq (.region [
    ⟨some 1, .box (.tmp 0), none⟩,
    ⟨some 2, .mov (.const (.bool false)), none⟩] [1])
  (.seq (.region [
    ⟨some 3, .faddr (.tmp 1) 0, none⟩,
    ⟨some 4, .load (.tmp 3) 1 false .plain, none⟩,
    ⟨some 5, .call 105 [false] [.tmp 4], none⟩,
    ⟨some 6, .mov (.tmp 5), none⟩,
    ⟨some 7, .faddr (.tmp 1) 1, some (6, true)⟩,
    ⟨some 8, .load (.tmp 7) 1 false .plain, some (6, true)⟩,
    ⟨some 9, .call 85 [false, false, false] [.tmp 8, .const (.int .i64 1), .const (.int .i64 1000000)], some (6, true)⟩,
    ⟨some 10, .pick (.tmp 6) (.tmp 9) (.const (.bool false)), none⟩,
    ⟨some 11, .mov (.tmp 10), none⟩,
    ⟨some 12, .faddr (.tmp 1) 2, some (11, true)⟩,
    ⟨some 13, .load (.tmp 12) 1 false .plain, some (11, true)⟩,
    ⟨some 14, .bin .eql (.tmp 13) (.const (.str ⟨#[]⟩)), some (11, true)⟩,
    ⟨some 15, .mov (.tmp 14), some (11, true)⟩,
    ⟨some 16, .faddr (.tmp 1) 2, some (15, false)⟩,
    ⟨some 17, .load (.tmp 16) 1 false .plain, some (15, false)⟩,
    ⟨some 18, .call 106 [false] [.tmp 17], some (15, false)⟩,
    ⟨some 19, .pick (.tmp 15) (.const (.bool true)) (.tmp 18), some (11, true)⟩,
    ⟨some 20, .pick (.tmp 11) (.tmp 19) (.const (.bool false)), none⟩,
    ⟨some 21, .mov (.tmp 20), none⟩,
    ⟨some 22, .faddr (.tmp 1) 3, some (21, true)⟩,
    ⟨some 23, .load (.tmp 22) 1 false .plain, some (21, true)⟩,
    ⟨some 24, .call 85 [false, false, false] [.tmp 23, .const (.int .i64 0), .const (.int .i64 100)], some (21, true)⟩,
    ⟨some 25, .pick (.tmp 21) (.tmp 24) (.const (.bool false)), none⟩,
    ⟨some 26, .mov (.tmp 25), none⟩,
    ⟨some 27, .faddr (.tmp 1) 4, some (26, true)⟩,
    ⟨some 28, .load (.tmp 27) 1 false .plain, some (26, true)⟩,
    ⟨some 29, .call 85 [false, false, false] [.tmp 28, .const (.int .i64 0), .const (.int .i64 100)], some (26, true)⟩,
    ⟨some 30, .pick (.tmp 26) (.tmp 29) (.const (.bool false)), none⟩,
    ⟨some 31, .mov (.tmp 30), none⟩,
    ⟨some 32, .faddr (.tmp 1) 5, some (31, true)⟩,
    ⟨some 33, .load (.tmp 32) 1 false .plain, some (31, true)⟩,
    ⟨some 34, .call 85 [false, false, false] [.tmp 33, .const (.int .i64 0), .const (.int .i64 100)], some (31, true)⟩,
    ⟨some 35, .pick (.tmp 31) (.tmp 34) (.const (.bool false)), none⟩,
    ⟨some 36, .mov (.tmp 35), none⟩,
    ⟨some 37, .faddr (.tmp 1) 6, some (36, true)⟩,
    ⟨some 38, .load (.tmp 37) 1 false .plain, some (36, true)⟩,
    ⟨some 39, .call 85 [false, false, false] [.tmp 38, .const (.int .i64 0), .const (.int .i64 100)], some (36, true)⟩,
    ⟨some 40, .pick (.tmp 36) (.tmp 39) (.const (.bool false)), none⟩,
    ⟨some 2, .mov (.tmp 40), none⟩] [2])
  .ret))⟩
-- laws.eqMateWant
def c83 : CFn := ⟨40, [.tmp 4],
  (.seq (.region [
    ⟨some 2, .box (.tmp 0), none⟩,
    ⟨some 3, .box (.tmp 1), none⟩,
    ⟨some 4, .mov (.const (.bool false)), none⟩] [2, 3])
  (.seq (.seq (.region [
    ⟨some 5, .faddr (.tmp 2) 0, none⟩,
    ⟨some 6, .load (.tmp 5) 1 false .plain, none⟩,
    ⟨some 7, .faddr (.tmp 3) 0, none⟩,
    ⟨some 8, .load (.tmp 7) 1 false .plain, none⟩,
    ⟨some 9, .bin .neq (.tmp 6) (.tmp 8), none⟩] [2, 3, 9])
  (.cond (.tmp 9)
    (.seq (.region [
      ⟨some 4, .mov (.const (.bool false)), none⟩] [4])
    .ret)
    .skip))
  (.seq (.seq (.region [
    ⟨some 10, .faddr (.tmp 2) 1, none⟩,
    ⟨some 11, .load (.tmp 10) 1 false .plain, none⟩,
    ⟨some 12, .faddr (.tmp 3) 1, none⟩,
    ⟨some 13, .load (.tmp 12) 1 false .plain, none⟩,
    ⟨some 14, .bin .neq (.tmp 11) (.tmp 13), none⟩] [2, 3, 14])
  (.cond (.tmp 14)
    (.seq (.region [
      ⟨some 4, .mov (.const (.bool false)), none⟩] [4])
    .ret)
    .skip))
  (.seq (.seq (.region [
    ⟨some 15, .faddr (.tmp 2) 2, none⟩,
    ⟨some 16, .load (.tmp 15) 1 false .plain, none⟩,
    ⟨some 17, .faddr (.tmp 3) 2, none⟩,
    ⟨some 18, .load (.tmp 17) 1 false .plain, none⟩,
    ⟨some 19, .bin .neq (.tmp 16) (.tmp 18), none⟩] [2, 3, 19])
  (.cond (.tmp 19)
    (.seq (.region [
      ⟨some 4, .mov (.const (.bool false)), none⟩] [4])
    .ret)
    .skip))
  (.seq (.seq (.region [
    ⟨some 20, .faddr (.tmp 2) 3, none⟩,
    ⟨some 21, .load (.tmp 20) 1 false .plain, none⟩,
    ⟨some 22, .faddr (.tmp 3) 3, none⟩,
    ⟨some 23, .load (.tmp 22) 1 false .plain, none⟩,
    ⟨some 24, .bin .neq (.tmp 21) (.tmp 23), none⟩] [2, 3, 24])
  (.cond (.tmp 24)
    (.seq (.region [
      ⟨some 4, .mov (.const (.bool false)), none⟩] [4])
    .ret)
    .skip))
  (.seq (.seq (.region [
    ⟨some 25, .faddr (.tmp 2) 4, none⟩,
    ⟨some 26, .load (.tmp 25) 1 false .plain, none⟩,
    ⟨some 27, .faddr (.tmp 3) 4, none⟩,
    ⟨some 28, .load (.tmp 27) 1 false .plain, none⟩,
    ⟨some 29, .bin .neq (.tmp 26) (.tmp 28), none⟩] [2, 3, 29])
  (.cond (.tmp 29)
    (.seq (.region [
      ⟨some 4, .mov (.const (.bool false)), none⟩] [4])
    .ret)
    .skip))
  (.seq (.seq (.region [
    ⟨some 30, .faddr (.tmp 2) 5, none⟩,
    ⟨some 31, .load (.tmp 30) 1 false .plain, none⟩,
    ⟨some 32, .faddr (.tmp 3) 5, none⟩,
    ⟨some 33, .load (.tmp 32) 1 false .plain, none⟩,
    ⟨some 34, .bin .neq (.tmp 31) (.tmp 33), none⟩] [2, 3, 34])
  (.cond (.tmp 34)
    (.seq (.region [
      ⟨some 4, .mov (.const (.bool false)), none⟩] [4])
    .ret)
    .skip))
  (.seq (.seq (.region [
    ⟨some 35, .faddr (.tmp 2) 6, none⟩,
    ⟨some 36, .load (.tmp 35) 1 false .plain, none⟩,
    ⟨some 37, .faddr (.tmp 3) 6, none⟩,
    ⟨some 38, .load (.tmp 37) 1 false .plain, none⟩,
    ⟨some 39, .bin .neq (.tmp 36) (.tmp 38), none⟩] [39])
  (.cond (.tmp 39)
    (.seq (.region [
      ⟨some 4, .mov (.const (.bool false)), none⟩] [4])
    .ret)
    .skip))
  (.seq (.region [
    ⟨some 4, .mov (.const (.bool true)), none⟩] [4])
  .ret)))))))))⟩
-- impl.in
def c85 : CFn := ⟨15, [.tmp 6],
  (.seq (.region [
    ⟨some 6, .mov (.const (.bool false)), none⟩] [0, 1, 2])
  (.seq (.region [
    ⟨some 7, .mov (.tmp 0), none⟩,
    ⟨some 8, .mov (.tmp 1), none⟩,
    ⟨some 9, .bin .geq (.tmp 7) (.tmp 8), none⟩,
    ⟨some 10, .mov (.tmp 9), none⟩,
    ⟨some 11, .mov (.tmp 0), some (10, true)⟩,
    ⟨some 12, .mov (.tmp 2), some (10, true)⟩,
    ⟨some 13, .bin .leq (.tmp 11) (.tmp 12), some (10, true)⟩,
    ⟨some 14, .pick (.tmp 10) (.tmp 13) (.const (.bool false)), none⟩,
    ⟨some 6, .mov (.tmp 14), none⟩] [6])
  .ret))⟩
-- laws.markText
def c96b0 : CCode := (.seq (.seq (.region [
    ⟨some 6, .mov (.tmp 0), none⟩,
    ⟨some 7, .bin .gtr (.tmp 6) (.const (.int .i64 0)), none⟩] [0, 3, 7])
  (.cond (.tmp 7)
    .skip
    (.exit 0)))
  (.block 1
    (.seq (.region [
      ⟨some 8, .mov (.tmp 0), none⟩,
      ⟨some 9, .bin .rem (.tmp 8) (.const (.int .i64 10)), none⟩,
      ⟨some 10, .bin .add (.const (.int .i64 48)) (.tmp 9), none⟩,
      ⟨some 11, .conv .u8 (.tmp 10), none⟩,
      ⟨some 12, .bslice 1 [.int .u8 0] 1 [(0, .tmp 11)], none⟩,
      ⟨some 13, .toStr (.tmp 12), none⟩,
      ⟨some 14, .mov (.tmp 3), none⟩,
      ⟨some 15, .bin .add (.tmp 13) (.tmp 14), none⟩,
      ⟨some 3, .mov (.tmp 15), none⟩] [0, 3])
    (.region [
      ⟨some 16, .mov (.tmp 0), none⟩,
      ⟨some 17, .bin .quo (.tmp 16) (.const (.int .i64 10)), none⟩,
      ⟨some 0, .mov (.tmp 17), none⟩] [0, 3]))))
def c96 : CFn := ⟨20, [.tmp 2],
  (.seq (.region [
    ⟨some 2, .mov (.const (.str ⟨#[]⟩)), none⟩] [0])
  (.seq (.seq (.region [
    ⟨some 4, .mov (.tmp 0), none⟩,
    ⟨some 5, .bin .leq (.tmp 4) (.const (.int .i64 0)), none⟩] [0, 5])
  (.cond (.tmp 5)
    (.seq (.region [
      ⟨some 2, .mov (.const (.str ⟨#[109, 48]⟩)), none⟩] [2])
    .ret)
    .skip))
  (.seq (.region [
    ⟨some 3, .mov (.const (.str ⟨#[]⟩)), none⟩] [0, 3])
  (.seq (.block 0
    (.loop [0, 3] c96b0))
  (.seq (.region [
    ⟨some 18, .mov (.tmp 3), none⟩,
    ⟨some 19, .bin .add (.const (.str ⟨#[109]⟩)) (.tmp 18), none⟩,
    ⟨some 2, .mov (.tmp 19), none⟩] [2])
  .ret)))))⟩
-- laws.szMatePlaceS
def c97b0 : CCode := (.seq (.seq (.region [
    ⟨some 12, .mov (.tmp 5), none⟩,
    ⟨some 13, .mov (.tmp 0), none⟩,
    ⟨some 14, .len false (.tmp 13), none⟩,
    ⟨some 15, .bin .lss (.tmp 12) (.tmp 14), none⟩] [0, 1, 5, 15])
  (.cond (.tmp 15)
    .skip
    (.exit 0)))
  (.seq (.block 1
    (.seq (.region [
      ⟨some 18, .mov (.tmp 0), none⟩,
      ⟨some 19, .mov (.tmp 5), none⟩,
      ⟨some 20, .iaddr 3 (.tmp 18) (.tmp 19), none⟩,
      ⟨some 21, .load (.tmp 20) 3 true .plain, none⟩,
      ⟨some 22, .mov (.tmp 1), none⟩,
      ⟨some 23, .call 147 [false, false] [.tmp 21, .tmp 22], none⟩,
      ⟨some 1, .mov (.tmp 23), none⟩] [0, 1, 5])
    (.seq (.region [
      ⟨some 24, .mov (.tmp 1), none⟩,
      ⟨some 25, .bin .lss (.tmp 24) (.const (.int .i64 0)), none⟩] [0, 1, 5, 25])
    (.cond (.tmp 25)
      (.seq (.region [
        ⟨some 4, .mov (.const (.int .i64 (-1))), none⟩] [4])
      .ret)
      .skip))))
  (.region [
    ⟨some 16, .mov (.tmp 5), none⟩,
    ⟨some 17, .bin .add (.tmp 16) (.const (.int .i64 1)), none⟩,
    ⟨some 5, .mov (.tmp 17), none⟩] [0, 1, 5])))
def c97 : CFn := ⟨27, [.tmp 4],
  (.seq (.region [
    ⟨some 4, .mov (.const (.int .i64 0)), none⟩] [0, 1])
  (.seq (.region [
    ⟨some 6, .mov (.tmp 1), none⟩,
    ⟨some 7, .mov (.tmp 0), none⟩,
    ⟨some 8, .len false (.tmp 7), none⟩,
    ⟨some 9, .bin .sub (.tmp 6) (.tmp 8), none⟩,
    ⟨some 1, .mov (.tmp 9), none⟩] [0, 1])
  (.seq (.seq (.region [
    ⟨some 10, .mov (.tmp 1), none⟩,
    ⟨some 11, .bin .lss (.tmp 10) (.const (.int .i64 0)), none⟩] [0, 1, 11])
  (.cond (.tmp 11)
    (.seq (.region [
      ⟨some 4, .mov (.const (.int .i64 (-1))), none⟩] [4])
    .ret)
    .skip))
  (.seq (.seq (.region [
    ⟨some 5, .mov (.const (.int .i64 0)), none⟩] [0, 1, 5])
  (.block 0
    (.loop [0, 1, 5] c97b0)))
  (.seq (.region [
    ⟨some 26, .mov (.tmp 1), none⟩,
    ⟨some 4, .mov (.tmp 26), none⟩] [4])
  .ret)))))⟩
-- laws.szMateGrantS
def c98b0 : CCode := (.seq (.seq (.region [
    ⟨some 12, .mov (.tmp 5), none⟩,
    ⟨some 13, .mov (.tmp 0), none⟩,
    ⟨some 14, .len false (.tmp 13), none⟩,
    ⟨some 15, .bin .lss (.tmp 12) (.tmp 14), none⟩] [0, 1, 5, 15])
  (.cond (.tmp 15)
    .skip
    (.exit 0)))
  (.seq (.block 1
    (.seq (.region [
      ⟨some 18, .mov (.tmp 0), none⟩,
      ⟨some 19, .mov (.tmp 5), none⟩,
      ⟨some 20, .iaddr 5 (.tmp 18) (.tmp 19), none⟩,
      ⟨some 21, .load (.tmp 20) 5 true .plain, none⟩,
      ⟨some 22, .mov (.tmp 1), none⟩,
      ⟨some 23, .call 146 [false, false] [.tmp 21, .tmp 22], none⟩,
      ⟨some 1, .mov (.tmp 23), none⟩] [0, 1, 5])
    (.seq (.region [
      ⟨some 24, .mov (.tmp 1), none⟩,
      ⟨some 25, .bin .lss (.tmp 24) (.const (.int .i64 0)), none⟩] [0, 1, 5, 25])
    (.cond (.tmp 25)
      (.seq (.region [
        ⟨some 4, .mov (.const (.int .i64 (-1))), none⟩] [4])
      .ret)
      .skip))))
  (.region [
    ⟨some 16, .mov (.tmp 5), none⟩,
    ⟨some 17, .bin .add (.tmp 16) (.const (.int .i64 1)), none⟩,
    ⟨some 5, .mov (.tmp 17), none⟩] [0, 1, 5])))
def c98 : CFn := ⟨27, [.tmp 4],
  (.seq (.region [
    ⟨some 4, .mov (.const (.int .i64 0)), none⟩] [0, 1])
  (.seq (.region [
    ⟨some 6, .mov (.tmp 1), none⟩,
    ⟨some 7, .mov (.tmp 0), none⟩,
    ⟨some 8, .len false (.tmp 7), none⟩,
    ⟨some 9, .bin .sub (.tmp 6) (.tmp 8), none⟩,
    ⟨some 1, .mov (.tmp 9), none⟩] [0, 1])
  (.seq (.seq (.region [
    ⟨some 10, .mov (.tmp 1), none⟩,
    ⟨some 11, .bin .lss (.tmp 10) (.const (.int .i64 0)), none⟩] [0, 1, 11])
  (.cond (.tmp 11)
    (.seq (.region [
      ⟨some 4, .mov (.const (.int .i64 (-1))), none⟩] [4])
    .ret)
    .skip))
  (.seq (.seq (.region [
    ⟨some 5, .mov (.const (.int .i64 0)), none⟩] [0, 1, 5])
  (.block 0
    (.loop [0, 1, 5] c98b0)))
  (.seq (.region [
    ⟨some 26, .mov (.tmp 1), none⟩,
    ⟨some 4, .mov (.tmp 26), none⟩] [4])
  .ret)))))⟩
-- spec.l6PlacesOk
def c99b0 : CCode := (.seq (.seq (.region [
    ⟨some 64, .mov (.tmp 7), none⟩,
    ⟨some 65, .mov (.tmp 0), none⟩,
    ⟨some 66, .mov (.tmp 5), none⟩,
    ⟨some 67, .iaddr 3 (.tmp 65) (.tmp 66), none⟩,
    ⟨some 68, .faddr (.tmp 67) 2, none⟩,
    ⟨some 69, .load (.tmp 68) 1 false .plain, none⟩,
    ⟨some 70, .len false (.tmp 69), none⟩,
    ⟨some 71, .bin .lss (.tmp 64) (.tmp 70), none⟩] [0, 3, 4, 5, 6, 7, 71])
  (.cond (.tmp 71)
    .skip
    (.exit 6)))
  (.seq (.block 7
    (.seq (.quiet [
      ⟨some 74, .faddr (.tmp 4) 2, none⟩,
      ⟨some 75, .load (.tmp 74) 1 false .plain, none⟩,
      ⟨some 76, .mov (.tmp 6), none⟩,
      ⟨some 77, .iaddr 7 (.tmp 75) (.tmp 76), none⟩,
      ⟨some 78, .faddr (.tmp 77) 2, none⟩,
      ⟨some 79, .load (.tmp 78) 1 false .plain, none⟩,
      ⟨some 80, .bin .neq (.tmp 79) (.const (.str ⟨#[]⟩)), none⟩,
      ⟨some 81, .mov (.tmp 80), none⟩,
      ⟨some 82, .faddr (.tmp 4) 2, some (81, true)⟩,
      ⟨some 83, .load (.tmp 82) 1 false .plain, some (81, true)⟩,
      ⟨some 84, .mov (.tmp 6), some (81, true)⟩,
      ⟨some 85, .iaddr 7 (.tmp 83) (.tmp 84), some (81, true)⟩,
      ⟨some 86, .faddr (.tmp 85) 2, some (81, true)⟩,
      ⟨some 87, .load (.tmp 86) 1 false .plain, some (81, true)⟩,
      ⟨some 88, .mov (.tmp 0), some (81, true)⟩,
      ⟨some 89, .mov (.tmp 5), some (81, true)⟩,
      ⟨some 90, .iaddr 3 (.tmp 88) (.tmp 89), some (81, true)⟩,
      ⟨some 91, .faddr (.tmp 90) 2, some (81, true)⟩,
      ⟨some 92, .load (.tmp 91) 1 false .plain, some (81, true)⟩,
      ⟨some 93, .mov (.tmp 7), some (81, true)⟩,
      ⟨some 94, .iaddr 7 (.tmp 92) (.tmp 93), some (81, true)⟩,
      ⟨some 95, .faddr (.tmp 94) 2, some (81, true)⟩,
      ⟨some 96, .load (.tmp 95) 1 false .plain, some (81, true)⟩,
      ⟨some 97, .bin .eql (.tmp 87) (.tmp 96), some (81, true)⟩,
      ⟨some 98, .pick (.tmp 81) (.tmp 97) (.const (.bool false)), none⟩] [0, 3, 4, 5, 6, 7, 98])
    (.cond (.tmp 98)
      (.seq (.region [
        ⟨some 2, .mov (.const (.bool false)), none⟩] [2])
      .ret)
      .skip)))
  (.region [
    ⟨some 72, .mov (.tmp 7), none⟩,
    ⟨some 73, .bin .add (.tmp 72) (.const (.int .i64 1)), none⟩,
    ⟨some 7, .mov (.tmp 73), none⟩] [0, 3, 4, 5, 6, 7])))
def c99b1 : CCode := (.seq (.seq (.region [
    ⟨some 57, .mov (.tmp 6), none⟩,
    ⟨some 58, .faddr (.tmp 4) 2, none⟩,
    ⟨some 59, .load (.tmp 58) 1 false .plain, none⟩,
    ⟨some 60, .len false (.tmp 59), none⟩,
    ⟨some 61, .bin .lss (.tmp 57) (.tmp 60), none⟩] [0, 3, 4, 5, 6, 61])
  (.cond (.tmp 61)
    .skip
    (.exit 4)))
  (.seq (.block 5
    (.seq (.region [
      ⟨some 7, .mov (.const (.int .i64 0)), none⟩] [0, 3, 4, 5, 6, 7])
    (.block 6
      (.loop [0, 3, 4, 5, 6, 7] c99b0))))
  (.region [
    ⟨some 62, .mov (.tmp 6), none⟩,
    ⟨some 63, .bin .add (.tmp 62) (.const (.int .i64 1)), none⟩,
    ⟨some 6, .mov (.tmp 63), none⟩] [0, 3, 4, 5, 6])))
def c99b2 : CCode := (.seq (.seq (.region [
    ⟨some 52, .mov (.tmp 5), none⟩,
    ⟨some 53, .mov (.tmp 3), none⟩,
    ⟨some 54, .bin .lss (.tmp 52) (.tmp 53), none⟩] [0, 3, 4, 5, 54])
  (.cond (.tmp 54)
    .skip
    (.exit 2)))
  (.seq (.block 3
    (.seq (.region [
      ⟨some 6, .mov (.const (.int .i64 0)), none⟩] [0, 3, 4, 5, 6])
    (.block 4
      (.loop [0, 3, 4, 5, 6] c99b1))))
  (.region [
    ⟨some 55, .mov (.tmp 5), none⟩,
    ⟨some 56, .bin .add (.tmp 55) (.const (.int .i64 1)), none⟩,
    ⟨some 5, .mov (.tmp 56), none⟩] [0, 3, 4, 5])))
def c99b3 : CCode := (.seq (.seq (.region [
    ⟨some 11, .mov (.tmp 3), none⟩,
    ⟨some 12, .mov (.tmp 0), none⟩,
    ⟨some 13, .len false (.tmp 12), none⟩,
    ⟨some 14, .bin .lss (.tmp 11) (.tmp 13), none⟩] [0, 3, 14])
  (.cond (.tmp 14)
    .skip
    (.exit 0)))
  (.seq (.block 1
    (.seq (.region [
      ⟨some 17, .mov (.tmp 0), none⟩,
      ⟨some 18, .mov (.tmp 3), none⟩,
      ⟨some 19, .iaddr 3 (.tmp 17) (.tmp 18), none⟩,
      ⟨some 20, .load (.tmp 19) 3 true .plain, none⟩,
      ⟨some 4, .alloc [.str ⟨#[]⟩, .int .i64 0, .sl .own 7 []], none⟩,
      ⟨none, .store (.tmp 4) (.tmp 20) 3, none⟩] [0, 3, 4])
    (.seq (.seq (.quiet [
      ⟨some 21, .faddr (.tmp 4) 0, none⟩,
      ⟨some 22, .load (.tmp 21) 1 false .plain, none⟩,
      ⟨some 23, .call 101 [false] [.tmp 22], none⟩,
      ⟨some 24, .un .not (.tmp 23), none⟩,
      ⟨some 25, .mov (.tmp 24), none⟩,
      ⟨some 26, .faddr (.tmp 4) 1, some (25, false)⟩,
      ⟨some 27, .load (.tmp 26) 1 false .plain, some (25, false)⟩,
      ⟨some 28, .call 102 [false, false, false] [.tmp 27, .const (.int .i64 1), .const (.int .i64 1000000)], some (25, false)⟩,
      ⟨some 29, .un .not (.tmp 28), some (25, false)⟩,
      ⟨some 30, .pick (.tmp 25) (.const (.bool true)) (.tmp 29), none⟩,
      ⟨some 31, .mov (.tmp 30), none⟩,
      ⟨some 32, .faddr (.tmp 4) 2, some (31, false)⟩,
      ⟨some 33, .load (.tmp 32) 1 false .plain, some (31, false)⟩,
      ⟨some 34, .call 7 [false] [.tmp 33], some (31, false)⟩,
      ⟨some 35, .un .not (.tmp 34), some (31, false)⟩,
      ⟨some 36, .pick (.tmp 31) (.const (.bool true)) (.tmp 35), none⟩,
      ⟨some 37, .mov (.tmp 36), none⟩,
      ⟨some 38, .mov (.tmp 3), some (37, false)⟩,
      ⟨some 39, .bin .gtr (.tmp 38) (.const (.int .i64 0)), some (37, false)⟩,
      ⟨some 40, .mov (.tmp 39), some (37, false)⟩,
      ⟨some 41, .mov (.tmp 0), some (40, true)⟩,
      ⟨some 42, .mov (.tmp 3), some (40, true)⟩,
      ⟨some 43, .bin .sub (.tmp 42) (.const (.int .i64 1)), some (40, true)⟩,
      ⟨some 44, .iaddr 3 (.tmp 41) (.tmp 43), some (40, true)⟩,
      ⟨some 45, .faddr (.tmp 44) 0, some (40, true)⟩,
      ⟨some 46, .load (.tmp 45) 1 false .plain, some (40, true)⟩,
      ⟨some 47, .faddr (.tmp 4) 0, some (40, true)⟩,
      ⟨some 48, .load (.tmp 47) 1 false .plain, some (40, true)⟩,
      ⟨some 49, .bin .geq (.tmp 46) (.tmp 48), some (40, true)⟩,
      ⟨some 50, .pick (.tmp 40) (.tmp 49) (.const (.bool false)), some (37, false)⟩,
      ⟨some 51, .pick (.tmp 37) (.const (.bool true)) (.tmp 50), none⟩] [0, 3, 4, 51])
    (.cond (.tmp 51)
      (.seq (.region [
        ⟨some 2, .mov (.const (.bool false)), none⟩] [2])
      .ret)
      .skip))
    (.seq (.region [
      ⟨some 5, .mov (.const (.int .i64 0)), none⟩] [0, 3, 4, 5])
    (.block 2
      (.loop [0, 3, 4, 5] c99b2))))))
  (.region [
    ⟨some 15, .mov (.tmp 3), none⟩,
    ⟨some 16, .bin .add (.tmp 15) (.const (.int .i64 1)), none⟩,
    ⟨some 3, .mov (.tmp 16), none⟩] [0, 3])))
def c99 : CFn := ⟨99, [.tmp 2],
  (.seq (.region [
    ⟨some 2, .mov (.const (.bool false)), none⟩] [0])
  (.seq (.seq (.region [
    ⟨some 8, .mov (.tmp 0), none⟩,
    ⟨some 9, .len false (.tmp 8), none⟩,
    ⟨some 10, .bin .gtr (.tmp 9) (.const (.int .i64 4)), none⟩] [0, 10])
  (.cond (.tmp 10)
    (.seq (.region [
      ⟨some 2, .mov (.const (.bool false)), none⟩] [2])
    .ret)
    .skip))
  (.seq (.seq (.region [
    ⟨some 3, .mov (.const (.int .i64 0)), none⟩] [0, 3])
  (.block 0
    (.loop [0, 3] c99b3)))
  (.seq (.region [
    ⟨some 2, .mov (.const (.bool true)), none⟩] [2])
  .ret))))⟩
-- spec.l1HoldOk
def c100 : CFn := ⟨9, [.tmp 2],
  (.seq (.region [
    ⟨some 2, .mov (.const (.bool false)), none⟩] [0])
  (.seq (.region [
    ⟨some 3, .mov (.tmp 0), none⟩,
    ⟨some 4, .call 101 [false] [.tmp 3], none⟩,
    ⟨some 5, .mov (.tmp 4), none⟩,
    ⟨some 6, .mov (.tmp 0), some (5, true)⟩,
    ⟨some 7, .bin .neq (.tmp 6) (.const (.str ⟨#[42]⟩)), some (5, true)⟩,
    ⟨some 8, .pick (.tmp 5) (.tmp 7) (.const (.bool false)), none⟩,
    ⟨some 2, .mov (.tmp 8), none⟩] [2])
  .ret))⟩
-- spec.l1NameOk
def c101b0 : CCode := (.seq (.seq (.region [
    ⟨some 8, .mov (.tmp 3), none⟩,
    ⟨some 9, .mov (.tmp 0), none⟩,
    ⟨some 10, .len true (.tmp 9), none⟩,
    ⟨some 11, .bin .lss (.tmp 8) (.tmp 10), none⟩] [0, 3, 11])
  (.cond (.tmp 11)
    .skip
    (.exit 0)))
  (.seq (.block 1
    (.seq (.region [
      ⟨some 14, .mov (.tmp 0), none⟩,
      ⟨some 15, .mov (.tmp 3), none⟩,
      ⟨some 16, .sidx (.tmp 14) (.tmp 15), none⟩,
      ⟨some 17, .bin .lss (.tmp 16) (.const (.int .u8 33)), none⟩,
      ⟨some 18, .mov (.tmp 17), none⟩,
      ⟨some 19, .mov (.tmp 0), some (18, false)⟩,
      ⟨some 20, .mov (.tmp 3), some (18, false)⟩,
      ⟨some 21, .sidx (.tmp 19) (.tmp 20), some (18, false)⟩,
      ⟨some 22, .bin .gtr (.tmp 21) (.const (.int .u8 126)), some (18, false)⟩,
      ⟨some 23, .pick (.tmp 18) (.const (.bool true)) (.tmp 22), none⟩] [0, 3, 23])
    (.cond (.tmp 23)
      (.seq (.region [
        ⟨some 2, .mov (.const (.bool false)), none⟩] [2])
      .ret)
      .skip)))
  (.region [
    ⟨some 12, .mov (.tmp 3), none⟩,
    ⟨some 13, .bin .add (.tmp 12) (.const (.int .i64 1)), none⟩,
    ⟨some 3, .mov (.tmp 13), none⟩] [0, 3])))
def c101 : CFn := ⟨24, [.tmp 2],
  (.seq (.region [
    ⟨some 2, .mov (.const (.bool false)), none⟩] [0])
  (.seq (.seq (.region [
    ⟨some 4, .mov (.tmp 0), none⟩,
    ⟨some 5, .len true (.tmp 4), none⟩,
    ⟨some 6, .call 102 [false, false, false] [.tmp 5, .const (.int .i64 1), .const (.int .i64 20)], none⟩,
    ⟨some 7, .un .not (.tmp 6), none⟩] [0, 7])
  (.cond (.tmp 7)
    (.seq (.region [
      ⟨some 2, .mov (.const (.bool false)), none⟩] [2])
    .ret)
    .skip))
  (.seq (.seq (.region [
    ⟨some 3, .mov (.const (.int .i64 0)), none⟩] [0, 3])
  (.block 0
    (.loop [0, 3] c101b0)))
  (.seq (.region [
    ⟨some 2, .mov (.const (.bool true)), none⟩] [2])
  .ret))))⟩
-- spec.l1In
def c102 : CFn := ⟨15, [.tmp 6],
  (.seq (.region [
    ⟨some 6, .mov (.const (.bool false)), none⟩] [0, 1, 2])
  (.seq (.region [
    ⟨some 7, .mov (.tmp 0), none⟩,
    ⟨some 8, .mov (.tmp 1), none⟩,
    ⟨some 9, .bin .geq (.tmp 7) (.tmp 8), none⟩,
    ⟨some 10, .mov (.tmp 9), none⟩,
    ⟨some 11, .mov (.tmp 0), some (10, true)⟩,
    ⟨some 12, .mov (.tmp 2), some (10, true)⟩,
    ⟨some 13, .bin .leq (.tmp 11) (.tmp 12), some (10, true)⟩,
    ⟨some 14, .pick (.tmp 10) (.tmp 13) (.const (.bool false)), none⟩,
    ⟨some 6, .mov (.tmp 14), none⟩] [6])
  .ret))⟩
-- laws.toMatePlaceS
def c103b0 : CCode := (.seq (.seq (.region [
    ⟨some 8, .mov (.tmp 4), none⟩,
    ⟨some 9, .mov (.tmp 0), none⟩,
    ⟨some 10, .len false (.tmp 9), none⟩,
    ⟨some 11, .bin .lss (.tmp 8) (.tmp 10), none⟩] [0, 3, 4, 11])
  (.cond (.tmp 11)
    .skip
    (.exit 0)))
  (.seq (.block 1
    (.region [
      ⟨some 14, .mov (.tmp 3), none⟩,
      ⟨some 15, .mov (.tmp 4), none⟩,
      ⟨some 16, .mov (.tmp 0), none⟩,
      ⟨some 17, .mov (.tmp 4), none⟩,
      ⟨some 18, .iaddr 3 (.tmp 16) (.tmp 17), none⟩,
      ⟨some 19, .load (.tmp 18) 3 true .plain, none⟩,
      ⟨some 20, .call 149 [false] [.tmp 19], none⟩,
      ⟨some 21, .iaddr 3 (.tmp 14) (.tmp 15), none⟩,
      ⟨none, .store (.tmp 21) (.tmp 20) 3, none⟩] [0, 3, 4]))
  (.region [
    ⟨some 12, .mov (.tmp 4), none⟩,
    ⟨some 13, .bin .add (.tmp 12) (.const (.int .i64 1)), none⟩,
    ⟨some 4, .mov (.tmp 13), none⟩] [0, 3, 4])))
def c103 : CFn := ⟨23, [.tmp 2],
  (.seq (.region [
    ⟨some 2, .mov (.const (.sl .own 3 [])), none⟩] [0])
  (.seq (.region [
    ⟨some 5, .mov (.tmp 0), none⟩,
    ⟨some 6, .len false (.tmp 5), none⟩,
    ⟨some 7, .mksl 3 [.str ⟨#[]⟩, .int .i64 0, .sl .own 7 []] 48 (.tmp 6), none⟩,
    ⟨some 3, .mov (.tmp 7), none⟩] [0, 3])
  (.seq (.seq (.region [
    ⟨some 4, .mov (.const (.int .i64 0)), none⟩] [0, 3, 4])
  (.block 0
    (.loop [0, 3, 4] c103b0)))
  (.seq (.region [
    ⟨some 22, .mov (.tmp 3), none⟩,
    ⟨some 2, .mov (.tmp 22), none⟩] [2])
  .ret))))⟩
-- laws.toMateGrantS
def c104b0 : CCode := (.seq (.seq (.region [
    ⟨some 8, .mov (.tmp 4), none⟩,
    ⟨some 9, .mov (.tmp 0), none⟩,
    ⟨some 10, .len false (.tmp 9), none⟩,
    ⟨some 11, .bin .lss (.tmp 8) (.tmp 10), none⟩] [0, 3, 4, 11])
  (.cond (.tmp 11)
    .skip
    (.exit 0)))
  (.seq (.block 1
    (.region [
      ⟨some 14, .mov (.tmp 3), none⟩,
      ⟨some 15, .mov (.tmp 4), none⟩,
      ⟨some 16, .mov (.tmp 0), none⟩,
      ⟨some 17, .mov (.tmp 4), none⟩,
      ⟨some 18, .iaddr 5 (.tmp 16) (.tmp 17), none⟩,
      ⟨some 19, .load (.tmp 18) 5 true .plain, none⟩,
      ⟨some 20, .call 148 [false] [.tmp 19], none⟩,
      ⟨some 21, .iaddr 5 (.tmp 14) (.tmp 15), none⟩,
      ⟨none, .store (.tmp 21) (.tmp 20) 5, none⟩] [0, 3, 4]))
  (.region [
    ⟨some 12, .mov (.tmp 4), none⟩,
    ⟨some 13, .bin .add (.tmp 12) (.const (.int .i64 1)), none⟩,
    ⟨some 4, .mov (.tmp 13), none⟩] [0, 3, 4])))
def c104 : CFn := ⟨23, [.tmp 2],
  (.seq (.region [
    ⟨some 2, .mov (.const (.sl .own 5 [])), none⟩] [0])
  (.seq (.region [
    ⟨some 5, .mov (.tmp 0), none⟩,
    ⟨some 6, .len false (.tmp 5), none⟩,
    ⟨some 7, .mksl 5 [.str ⟨#[]⟩, .str ⟨#[]⟩, .str ⟨#[]⟩, .int .i64 0, .int .i64 0] 64 (.tmp 6), none⟩,
    ⟨some 3, .mov (.tmp 7), none⟩] [0, 3])
  (.seq (.seq (.region [
    ⟨some 4, .mov (.const (.int .i64 0)), none⟩] [0, 3, 4])
  (.block 0
    (.loop [0, 3, 4] c104b0)))
  (.seq (.region [
    ⟨some 22, .mov (.tmp 3), none⟩,
    ⟨some 2, .mov (.tmp 22), none⟩] [2])
  .ret))))⟩
-- impl.isName
def c105b0 : CCode := (.seq (.region [
    ⟨some 15, .bin .lss (.tmp 14) (.tmp 13), none⟩] [0, 13, 14, 15])
  (.seq (.cond (.tmp 15)
    .skip
    (.exit 0))
  (.seq (.block 1
    (.seq (.region [
      ⟨some 16, .mov (.tmp 14), none⟩,
      ⟨some 3, .mov (.tmp 16), none⟩] [0, 3, 13, 14])
    (.seq (.region [
      ⟨some 17, .mov (.tmp 0), none⟩,
      ⟨some 18, .mov (.tmp 3), none⟩,
      ⟨some 19, .sidx (.tmp 17) (.tmp 18), none⟩,
      ⟨some 20, .bin .lss (.tmp 19) (.const (.int .u8 33)), none⟩,
      ⟨some 21, .mov (.tmp 20), none⟩,
      ⟨some 22, .mov (.tmp 0), some (21, false)⟩,
      ⟨some 23, .mov (.tmp 3), some (21, false)⟩,
      ⟨some 24, .sidx (.tmp 22) (.tmp 23), some (21, false)⟩,
      ⟨some 25, .bin .gtr (.tmp 24) (.const (.int .u8 126)), some (21, false)⟩,
      ⟨some 26, .pick (.tmp 21) (.const (.bool true)) (.tmp 25), none⟩] [0, 13, 14, 26])
    (.cond (.tmp 26)
      (.seq (.region [
        ⟨some 2, .mov (.const (.bool false)), none⟩] [2])
      .ret)
      .skip))))
  (.region [
    ⟨some 27, .bin .add (.tmp 14) (.const (.int .i64 1)), none⟩,
    ⟨some 14, .mov (.tmp 27), none⟩] [0, 13, 14]))))
def c105 : CFn := ⟨28, [.tmp 2],
  (.seq (.region [
    ⟨some 2, .mov (.const (.bool false)), none⟩] [0])
  (.seq (.seq (.region [
    ⟨some 4, .mov (.tmp 0), none⟩,
    ⟨some 5, .len true (.tmp 4), none⟩,
    ⟨some 6, .bin .lss (.tmp 5) (.const (.int .i64 1)), none⟩,
    ⟨some 7, .mov (.tmp 6), none⟩,
    ⟨some 8, .mov (.tmp 0), some (7, false)⟩,
    ⟨some 9, .len true (.tmp 8), some (7, false)⟩,
    ⟨some 10, .bin .gtr (.tmp 9) (.const (.int .i64 20)), some (7, false)⟩,
    ⟨some 11, .pick (.tmp 7) (.const (.bool true)) (.tmp 10), none⟩] [0, 11])
  (.cond (.tmp 11)
    (.seq (.region [
      ⟨some 2, .mov (.const (.bool false)), none⟩] [2])
    .ret)
    .skip))
  (.seq (.seq (.region [
    ⟨some 12, .mov (.tmp 0), none⟩,
    ⟨some 13, .len true (.tmp 12), none⟩,
    ⟨some 14, .mov (.const (.int .i64 0)), none⟩] [0, 13, 14])
  (.block 0
    (.loop [0, 13, 14] c105b0)))
  (.seq (.region [
    ⟨some 2, .mov (.const (.bool true)), none⟩] [2])
  .ret))))⟩
-- impl.isHold
def c106 : CFn := ⟨9, [.tmp 2],
  (.seq (.region [
    ⟨some 2, .mov (.const (.bool false)), none⟩] [0])
  (.seq (.region [
    ⟨some 3, .mov (.tmp 0), none⟩,
    ⟨some 4, .call 105 [false] [.tmp 3], none⟩,
    ⟨some 5, .mov (.tmp 4), none⟩,
    ⟨some 6, .mov (.tmp 0), some (5, true)⟩,
    ⟨some 7, .bin .neq (.tmp 6) (.const (.str ⟨#[42]⟩)), some (5, true)⟩,
    ⟨some 8, .pick (.tmp 5) (.tmp 7) (.const (.bool false)), none⟩,
    ⟨some 2, .mov (.tmp 8), none⟩] [2])
  .ret))⟩
-- laws.eqMatePlaceS
def c107b0 : CCode := (.seq (.seq (.region [
    ⟨some 11, .mov (.tmp 5), none⟩,
    ⟨some 12, .mov (.tmp 0), none⟩,
    ⟨some 13, .len false (.tmp 12), none⟩,
    ⟨some 14, .bin .lss (.tmp 11) (.tmp 13), none⟩] [0, 1, 5, 14])
  (.cond (.tmp 14)
    .skip
    (.exit 0)))
  (.seq (.block 1
    (.seq (.quiet [
      ⟨some 17, .mov (.tmp 0), none⟩,
      ⟨some 18, .mov (.tmp 5), none⟩,
      ⟨some 19, .iaddr 3 (.tmp 17) (.tmp 18), none⟩,
      ⟨some 20, .load (.tmp 19) 3 true .plain, none⟩,
      ⟨some 21, .mov (.tmp 1), none⟩,
      ⟨some 22, .mov (.tmp 5), none⟩,
      ⟨some 23, .iaddr 3 (.tmp 21) (.tmp 22), none⟩,
      ⟨some 24, .load (.tmp 23) 3 true .plain, none⟩,
      ⟨some 25, .call 151 [false, false] [.tmp 20, .tmp 24], none⟩,
      ⟨some 26, .un .not (.tmp 25), none⟩] [0, 1, 5, 26])
    (.cond (.tmp 26)
      (.seq (.region [
        ⟨some 4, .mov (.const (.bool false)), none⟩] [4])
      .ret)
      .skip)))
  (.region [
    ⟨some 15, .mov (.tmp 5), none⟩,
    ⟨some 16, .bin .add (.tmp 15) (.const (.int .i64 1)), none⟩,
    ⟨some 5, .mov (.tmp 16), none⟩] [0, 1, 5])))
def c107 : CFn := ⟨27, [.tmp 4],
  (.seq (.region [
    ⟨some 4, .mov (.const (.bool false)), none⟩] [0, 1])
  (.seq (.seq (.region [
    ⟨some 6, .mov (.tmp 0), none⟩,
    ⟨some 7, .len false (.tmp 6), none⟩,
    ⟨some 8, .mov (.tmp 1), none⟩,
    ⟨some 9, .len false (.tmp 8), none⟩,
    ⟨some 10, .bin .neq (.tmp 7) (.tmp 9), none⟩] [0, 1, 10])
  (.cond (.tmp 10)
    (.seq (.region [
      ⟨some 4, .mov (.const (.bool false)), none⟩] [4])
    .ret)
    .skip))
  (.seq (.seq (.region [
    ⟨some 5, .mov (.const (.int .i64 0)), none⟩] [0, 1, 5])
  (.block 0
    (.loop [0, 1, 5] c107b0)))
  (.seq (.region [
    ⟨some 4, .mov (.const (.bool true)), none⟩] [4])
  .ret))))⟩
-- laws.eqMateGrantS
def c108b0 : CCode := (.seq (.seq (.region [
    ⟨some 11, .mov (.tmp 5), none⟩,
    ⟨some 12, .mov (.tmp 0), none⟩,
    ⟨some 13, .len false (.tmp 12), none⟩,
    ⟨some 14, .bin .lss (.tmp 11) (.tmp 13), none⟩] [0, 1, 5, 14])
  (.cond (.tmp 14)
    .skip
    (.exit 0)))
  (.seq (.block 1
    (.seq (.quiet [
      ⟨some 17, .mov (.tmp 0), none⟩,
      ⟨some 18, .mov (.tmp 5), none⟩,
      ⟨some 19, .iaddr 5 (.tmp 17) (.tmp 18), none⟩,
      ⟨some 20, .load (.tmp 19) 5 true .plain, none⟩,
      ⟨some 21, .mov (.tmp 1), none⟩,
      ⟨some 22, .mov (.tmp 5), none⟩,
      ⟨some 23, .iaddr 5 (.tmp 21) (.tmp 22), none⟩,
      ⟨some 24, .load (.tmp 23) 5 true .plain, none⟩,
      ⟨some 25, .call 150 [false, false] [.tmp 20, .tmp 24], none⟩,
      ⟨some 26, .un .not (.tmp 25), none⟩] [0, 1, 5, 26])
    (.cond (.tmp 26)
      (.seq (.region [
        ⟨some 4, .mov (.const (.bool false)), none⟩] [4])
      .ret)
      .skip)))
  (.region [
    ⟨some 15, .mov (.tmp 5), none⟩,
    ⟨some 16, .bin .add (.tmp 15) (.const (.int .i64 1)), none⟩,
    ⟨some 5, .mov (.tmp 16), none⟩] [0, 1, 5])))
def c108 : CFn := ⟨27, [.tmp 4],
  (.seq (.region [
    ⟨some 4, .mov (.const (.bool false)), none⟩] [0, 1])
  (.seq (.seq (.region [
    ⟨some 6, .mov (.tmp 0), none⟩,
    ⟨some 7, .len false (.tmp 6), none⟩,
    ⟨some 8, .mov (.tmp 1), none⟩,
    ⟨some 9, .len false (.tmp 8), none⟩,
    ⟨some 10, .bin .neq (.tmp 7) (.tmp 9), none⟩] [0, 1, 10])
  (.cond (.tmp 10)
    (.seq (.region [
      ⟨some 4, .mov (.const (.bool false)), none⟩] [4])
    .ret)
    .skip))
  (.seq (.seq (.region [
    ⟨some 5, .mov (.const (.int .i64 0)), none⟩] [0, 1, 5])
  (.block 0
    (.loop [0, 1, 5] c108b0)))
  (.seq (.region [
    ⟨some 4, .mov (.const (.bool true)), none⟩] [4])
  .ret))))⟩
-- spec.l6Copy
def c121b0 : CCode := (.seq (.seq (.region [
    ⟨some 13, .mov (.tmp 4), none⟩,
    ⟨some 14, .faddr (.tmp 1) 2, none⟩,
    ⟨some 15, .load (.tmp 14) 1 false .plain, none⟩,
    ⟨some 16, .len false (.tmp 15), none⟩,
    ⟨some 17, .bin .lss (.tmp 13) (.tmp 16), none⟩] [1, 2, 3, 4, 17])
  (.cond (.tmp 17)
    .skip
    (.exit 0)))
  (.seq (.block 1
    (.seq (.region [
      ⟨some 20, .faddr (.tmp 1) 2, none⟩,
      ⟨some 21, .load (.tmp 20) 1 false .plain, none⟩,
      ⟨some 22, .mov (.tmp 4), none⟩,
      ⟨some 23, .iaddr 3 (.tmp 21) (.tmp 22), none⟩,
      ⟨some 24, .load (.tmp 23) 3 true .plain, none⟩,
      ⟨some 5, .alloc [.str ⟨#[]⟩, .int .i64 0, .sl .own 7 []], none⟩,
      ⟨none, .store (.tmp 5) (.tmp 24) 3, none⟩] [1, 2, 3, 4, 5])
    (.seq (.region [
      ⟨some 25, .bslice 7 [.str ⟨#[]⟩, .int .i64 0, .str ⟨#[]⟩, .int .i64 0, .int .i64 0, .int .i64 0, .int .i64 0] 0 [], none⟩,
      ⟨some 26, .faddr (.tmp 5) 2, none⟩,
      ⟨some 27, .load (.tmp 26) 1 false .plain, none⟩,
      ⟨some 28, .append 7 72 true (.tmp 25) (.tmp 27), none⟩,
      ⟨some 29, .faddr (.tmp 5) 2, none⟩,
      ⟨none, .store (.tmp 29) (.tmp 28) 1, none⟩] [1, 2, 3, 4, 5])
    (.region [
      ⟨some 30, .faddr (.tmp 3) 2, none⟩,
      ⟨some 31, .load (.tmp 30) 1 false .plain, none⟩,
      ⟨some 32, .load (.tmp 5) 3 true .plain, none⟩,
      ⟨some 33, .bslice 3 [.str ⟨#[]⟩, .int .i64 0, .sl .own 7 []] 1 [(0, .tmp 32)], none⟩,
      ⟨some 34, .append 3 48 false (.tmp 31) (.tmp 33), none⟩,
      ⟨some 35, .faddr (.tmp 3) 2, none⟩,
      ⟨none, .store (.tmp 35) (.tmp 34) 1, none⟩] [1, 2, 3, 4]))))
  (.region [
    ⟨some 18, .mov (.tmp 4), none⟩,
    ⟨some 19, .bin .add (.tmp 18) (.const (.int .i64 1)), none⟩,
    ⟨some 4, .mov (.tmp 19), none⟩] [1, 2, 3, 4])))
def c121 : CFn := ⟨37, [.cell 2 3 true],
  (.seq (.region [
    ⟨some 1, .box (.tmp 0), none⟩,
    ⟨some 2, .alloc [.int .i64 0, .sl .own 5 [], .sl .own 3 []], none⟩] [1, 2])
  (.seq (.loud [
    ⟨some 6, .faddr (.tmp 1) 0, none⟩,
    ⟨some 7, .load (.tmp 6) 1 false .plain, none⟩,
    ⟨some 8, .bslice 5 [.str ⟨#[]⟩, .str ⟨#[]⟩, .str ⟨#[]⟩, .int .i64 0, .int .i64 0] 0 [], none⟩,
    ⟨some 9, .faddr (.tmp 1) 1, none⟩,
    ⟨some 10, .load (.tmp 9) 1 false .plain, none⟩,
    ⟨some 11, .append 5 64 true (.tmp 8) (.tmp 10), none⟩,
    ⟨some 12, .build [.int .i64 0, .sl .own 5 [], .sl .own 3 []] [(0, 1, .tmp 7), (1, 1, .tmp 11)], none⟩,
    ⟨some 3, .alloc [.int .i64 0, .sl .own 5 [], .sl .own 3 []], none⟩,
    ⟨none, .store (.tmp 3) (.tmp 12) 3, none⟩] [0, 1, 0, 0, 8, 28, 63, 0, 255] [1, 2, 3])
  (.seq (.seq (.region [
    ⟨some 4, .mov (.const (.int .i64 0)), none⟩] [1, 2, 3, 4])
  (.block 0
    (.loop [1, 2, 3, 4] c121b0)))
  (.seq (.region [
    ⟨some 36, .load (.tmp 3) 3 true .plain, none⟩,
    ⟨none, .store (.tmp 2) (.tmp 36) 3, none⟩] [2])
  .ret))))⟩
-- impl.copyLand
def c122b0 : CCode := (.seq (.region [
    ⟨some 14, .bin .lss (.tmp 13) (.tmp 12), none⟩] [1, 2, 3, 11, 12, 13, 14])
  (.seq (.cond (.tmp 14)
    .skip
    (.exit 0))
  (.seq (.block 1
    (.seq (.region [
      ⟨some 15, .iaddr 3 (.tmp 11) (.tmp 13), none⟩,
      ⟨some 16, .load (.tmp 15) 3 true .plain, none⟩,
      ⟨some 5, .alloc [.str ⟨#[]⟩, .int .i64 0, .sl .own 7 []], none⟩,
      ⟨none, .store (.tmp 5) (.tmp 16) 3, none⟩] [1, 2, 3, 5, 11, 12, 13])
    (.seq (.region [
      ⟨some 17, .faddr (.tmp 5) 2, none⟩,
      ⟨some 18, .load (.tmp 17) 1 false .plain, none⟩,
      ⟨some 19, .append 7 72 true (.const (.sl .own 7 [])) (.tmp 18), none⟩,
      ⟨some 20, .faddr (.tmp 5) 2, none⟩,
      ⟨none, .store (.tmp 20) (.tmp 19) 1, none⟩] [1, 2, 3, 5, 11, 12, 13])
    (.region [
      ⟨some 21, .mov (.tmp 3), none⟩,
      ⟨some 22, .load (.tmp 5) 3 true .plain, none⟩,
      ⟨some 23, .bslice 3 [.str ⟨#[]⟩, .int .i64 0, .sl .own 7 []] 1 [(0, .tmp 22)], none⟩,
      ⟨some 24, .append 3 48 false (.tmp 21) (.tmp 23), none⟩,
      ⟨some 3, .mov (.tmp 24), none⟩] [1, 2, 3, 11, 12, 13]))))
  (.region [
    ⟨some 25, .bin .add (.tmp 13) (.const (.int .i64 1)), none⟩,
    ⟨some 13, .mov (.tmp 25), none⟩] [1, 2, 3, 11, 12, 13]))))
def c122 : CFn := ⟨29, [.cell 2 3 true],
  (.seq (.region [
    ⟨some 1, .box (.tmp 0), none⟩,
    ⟨some 2, .alloc [.int .i64 0, .sl .own 5 [], .sl .own 3 []], none⟩] [1, 2])
  (.seq (.region [
    ⟨some 6, .faddr (.tmp 1) 1, none⟩,
    ⟨some 7, .load (.tmp 6) 1 false .plain, none⟩,
    ⟨some 8, .append 5 64 true (.const (.sl .own 5 [])) (.tmp 7), none⟩,
    ⟨some 9, .faddr (.tmp 1) 1, none⟩,
    ⟨none, .store (.tmp 9) (.tmp 8) 1, none⟩] [1, 2])
  (.seq (.region [
    ⟨some 3, .mov (.const (.sl .own 3 [])), none⟩] [1, 2, 3])
  (.seq (.seq (.region [
    ⟨some 10, .faddr (.tmp 1) 2, none⟩,
    ⟨some 11, .load (.tmp 10) 1 false .plain, none⟩,
    ⟨some 12, .len false (.tmp 11), none⟩,
    ⟨some 13, .mov (.const (.int .i64 0)), none⟩] [1, 2, 3, 11, 12, 13])
  (.block 0
    (.loop [1, 2, 3, 11, 12, 13] c122b0)))
  (.seq (.region [
    ⟨some 26, .mov (.tmp 3), none⟩,
    ⟨some 27, .faddr (.tmp 1) 2, none⟩,
    ⟨none, .store (.tmp 27) (.tmp 26) 1, none⟩] [1, 2])
  (.seq (.region [
    ⟨some 28, .load (.tmp 1) 3 true .plain, none⟩,
    ⟨none, .store (.tmp 2) (.tmp 28) 3, none⟩] [2])
  .ret))))))⟩
-- laws.markMatePlaceS
def c123b0 : CCode := (.seq (.seq (.region [
    ⟨some 6, .mov (.tmp 5), none⟩,
    ⟨some 7, .mov (.tmp 0), none⟩,
    ⟨some 8, .len false (.tmp 7), none⟩,
    ⟨some 9, .bin .lss (.tmp 6) (.tmp 8), none⟩] [0, 1, 5, 9])
  (.cond (.tmp 9)
    .skip
    (.exit 0)))
  (.seq (.block 1
    (.seq (.region [
      ⟨some 12, .mov (.tmp 0), none⟩,
      ⟨some 13, .mov (.tmp 5), none⟩,
      ⟨some 14, .mov (.tmp 1), none⟩,
      ⟨some 15, .call 96 [false] [.tmp 14], none⟩,
      ⟨some 16, .iaddr 3 (.tmp 12) (.tmp 13), none⟩,
      ⟨some 17, .faddr (.tmp 16) 0, none⟩,
      ⟨none, .store (.tmp 17) (.tmp 15) 1, none⟩] [0, 1, 5])
    (.seq (.region [
      ⟨some 18, .mov (.tmp 1), none⟩,
      ⟨some 19, .bin .add (.tmp 18) (.const (.int .i64 1)), none⟩,
      ⟨some 1, .mov (.tmp 19), none⟩] [0, 1, 5])
    (.seq (.region [
      ⟨some 20, .mov (.tmp 0), none⟩,
      ⟨some 21, .mov (.tmp 5), none⟩,
      ⟨some 22, .mov (.tmp 1), none⟩,
      ⟨some 23, .iaddr 3 (.tmp 20) (.tmp 21), none⟩,
      ⟨some 24, .faddr (.tmp 23) 1, none⟩,
      ⟨none, .store (.tmp 24) (.tmp 22) 1, none⟩] [0, 1, 5])
    (.seq (.region [
      ⟨some 25, .mov (.tmp 1), none⟩,
      ⟨some 26, .bin .add (.tmp 25) (.const (.int .i64 1)), none⟩,
      ⟨some 1, .mov (.tmp 26), none⟩] [0, 1, 5])
    (.region [
      ⟨some 27, .mov (.tmp 0), none⟩,
      ⟨some 28, .mov (.tmp 5), none⟩,
      ⟨some 29, .iaddr 3 (.tmp 27) (.tmp 28), none⟩,
      ⟨some 30, .faddr (.tmp 29) 2, none⟩,
      ⟨some 31, .load (.tmp 30) 1 false .share, none⟩,
      ⟨some 32, .mov (.tmp 1), none⟩,
      ⟨some 33, .callin 71 (.tmp 31) [.tmp 32], none⟩,
      ⟨some 1, .mov (.tmp 33), none⟩] [0, 1, 5]))))))
  (.region [
    ⟨some 10, .mov (.tmp 5), none⟩,
    ⟨some 11, .bin .add (.tmp 10) (.const (.int .i64 1)), none⟩,
    ⟨some 5, .mov (.tmp 11), none⟩] [0, 1, 5])))
def c123 : CFn := ⟨35, [.tmp 4],
  (.seq (.region [
    ⟨some 4, .mov (.const (.int .i64 0)), none⟩] [0, 1])
  (.seq (.seq (.region [
    ⟨some 5, .mov (.const (.int .i64 0)), none⟩] [0, 1, 5])
  (.block 0
    (.loop [0, 1, 5] c123b0)))
  (.seq (.region [
    ⟨some 34, .mov (.tmp 1), none⟩,
    ⟨some 4, .mov (.tmp 34), none⟩] [4])
  .ret)))⟩
-- laws.markMateGrantS
def c124b0 : CCode := (.seq (.seq (.region [
    ⟨some 6, .mov (.tmp 5), none⟩,
    ⟨some 7, .mov (.tmp 0), none⟩,
    ⟨some 8, .len false (.tmp 7), none⟩,
    ⟨some 9, .bin .lss (.tmp 6) (.tmp 8), none⟩] [0, 1, 5, 9])
  (.cond (.tmp 9)
    .skip
    (.exit 0)))
  (.seq (.block 1
    (.seq (.region [
      ⟨some 12, .mov (.tmp 0), none⟩,
      ⟨some 13, .mov (.tmp 5), none⟩,
      ⟨some 14, .mov (.tmp 1), none⟩,
      ⟨some 15, .call 96 [false] [.tmp 14], none⟩,
      ⟨some 16, .iaddr 5 (.tmp 12) (.tmp 13), none⟩,
      ⟨some 17, .faddr (.tmp 16) 0, none⟩,
      ⟨none, .store (.tmp 17) (.tmp 15) 1, none⟩] [0, 1, 5])
    (.seq (.region [
      ⟨some 18, .mov (.tmp 1), none⟩,
      ⟨some 19, .bin .add (.tmp 18) (.const (.int .i64 1)), none⟩,
      ⟨some 1, .mov (.tmp 19), none⟩] [0, 1, 5])
    (.seq (.region [
      ⟨some 20, .mov (.tmp 0), none⟩,
      ⟨some 21, .mov (.tmp 5), none⟩,
      ⟨some 22, .mov (.tmp 1), none⟩,
      ⟨some 23, .call 96 [false] [.tmp 22], none⟩,
      ⟨some 24, .iaddr 5 (.tmp 20) (.tmp 21), none⟩,
      ⟨some 25, .faddr (.tmp 24) 1, none⟩,
      ⟨none, .store (.tmp 25) (.tmp 23) 1, none⟩] [0, 1, 5])
    (.seq (.region [
      ⟨some 26, .mov (.tmp 1), none⟩,
      ⟨some 27, .bin .add (.tmp 26) (.const (.int .i64 1)), none⟩,
      ⟨some 1, .mov (.tmp 27), none⟩] [0, 1, 5])
    (.seq (.region [
      ⟨some 28, .mov (.tmp 0), none⟩,
      ⟨some 29, .mov (.tmp 5), none⟩,
      ⟨some 30, .mov (.tmp 1), none⟩,
      ⟨some 31, .call 96 [false] [.tmp 30], none⟩,
      ⟨some 32, .iaddr 5 (.tmp 28) (.tmp 29), none⟩,
      ⟨some 33, .faddr (.tmp 32) 2, none⟩,
      ⟨none, .store (.tmp 33) (.tmp 31) 1, none⟩] [0, 1, 5])
    (.seq (.region [
      ⟨some 34, .mov (.tmp 1), none⟩,
      ⟨some 35, .bin .add (.tmp 34) (.const (.int .i64 1)), none⟩,
      ⟨some 1, .mov (.tmp 35), none⟩] [0, 1, 5])
    (.seq (.region [
      ⟨some 36, .mov (.tmp 0), none⟩,
      ⟨some 37, .mov (.tmp 5), none⟩,
      ⟨some 38, .mov (.tmp 1), none⟩,
      ⟨some 39, .iaddr 5 (.tmp 36) (.tmp 37), none⟩,
      ⟨some 40, .faddr (.tmp 39) 3, none⟩,
      ⟨none, .store (.tmp 40) (.tmp 38) 1, none⟩] [0, 1, 5])
    (.seq (.region [
      ⟨some 41, .mov (.tmp 1), none⟩,
      ⟨some 42, .bin .add (.tmp 41) (.const (.int .i64 1)), none⟩,
      ⟨some 1, .mov (.tmp 42), none⟩] [0, 1, 5])
    (.seq (.region [
      ⟨some 43, .mov (.tmp 0), none⟩,
      ⟨some 44, .mov (.tmp 5), none⟩,
      ⟨some 45, .mov (.tmp 1), none⟩,
      ⟨some 46, .iaddr 5 (.tmp 43) (.tmp 44), none⟩,
      ⟨some 47, .faddr (.tmp 46) 4, none⟩,
      ⟨none, .store (.tmp 47) (.tmp 45) 1, none⟩] [0, 1, 5])
    (.region [
      ⟨some 48, .mov (.tmp 1), none⟩,
      ⟨some 49, .bin .add (.tmp 48) (.const (.int .i64 1)), none⟩,
      ⟨some 1, .mov (.tmp 49), none⟩] [0, 1, 5])))))))))))
  (.region [
    ⟨some 10, .mov (.tmp 5), none⟩,
    ⟨some 11, .bin .add (.tmp 10) (.const (.int .i64 1)), none⟩,
    ⟨some 5, .mov (.tmp 11), none⟩] [0, 1, 5])))
def c124 : CFn := ⟨51, [.tmp 4],
  (.seq (.region [
    ⟨some 4, .mov (.const (.int .i64 0)), none⟩] [0, 1])
  (.seq (.seq (.region [
    ⟨some 5, .mov (.const (.int .i64 0)), none⟩] [0, 1, 5])
  (.block 0
    (.loop [0, 1, 5] c124b0)))
  (.seq (.region [
    ⟨some 50, .mov (.tmp 1), none⟩,
    ⟨some 4, .mov (.tmp 50), none⟩] [4])
  .ret)))⟩
-- laws.heldMatePlaceS
def c125b0 : CCode := (.seq (.seq (.region [
    ⟨some 6, .mov (.tmp 5), none⟩,
    ⟨some 7, .mov (.tmp 0), none⟩,
    ⟨some 8, .len false (.tmp 7), none⟩,
    ⟨some 9, .bin .lss (.tmp 6) (.tmp 8), none⟩] [0, 1, 5, 9])
  (.cond (.tmp 9)
    .skip
    (.exit 0)))
  (.seq (.block 1
    (.seq (.seq (.quiet [
      ⟨some 12, .mov (.tmp 0), none⟩,
      ⟨some 13, .mov (.tmp 5), none⟩,
      ⟨some 14, .iaddr 3 (.tmp 12) (.tmp 13), none⟩,
      ⟨some 15, .faddr (.tmp 14) 0, none⟩,
      ⟨some 16, .load (.tmp 15) 1 false .plain, none⟩,
      ⟨some 17, .mov (.tmp 1), none⟩,
      ⟨some 18, .call 96 [false] [.tmp 17], none⟩,
      ⟨some 19, .bin .neq (.tmp 16) (.tmp 18), none⟩] [0, 1, 5, 19])
    (.cond (.tmp 19)
      (.seq (.region [
        ⟨some 4, .mov (.const (.int .i64 (-1))), none⟩] [4])
      .ret)
      .skip))
    (.seq (.region [
      ⟨some 20, .mov (.tmp 1), none⟩,
      ⟨some 21, .bin .add (.tmp 20) (.const (.int .i64 1)), none⟩,
      ⟨some 1, .mov (.tmp 21), none⟩] [0, 1, 5])
    (.seq (.seq (.region [
      ⟨some 22, .mov (.tmp 0), none⟩,
      ⟨some 23, .mov (.tmp 5), none⟩,
      ⟨some 24, .iaddr 3 (.tmp 22) (.tmp 23), none⟩,
      ⟨some 25, .faddr (.tmp 24) 1, none⟩,
      ⟨some 26, .load (.tmp 25) 1 false .plain, none⟩,
      ⟨some 27, .mov (.tmp 1), none⟩,
      ⟨some 28, .bin .neq (.tmp 26) (.tmp 27), none⟩] [0, 1, 5, 28])
    (.cond (.tmp 28)
      (.seq (.region [
        ⟨some 4, .mov (.const (.int .i64 (-1))), none⟩] [4])
      .ret)
      .skip))
    (.seq (.region [
      ⟨some 29, .mov (.tmp 1), none⟩,
      ⟨some 30, .bin .add (.tmp 29) (.const (.int .i64 1)), none⟩,
      ⟨some 1, .mov (.tmp 30), none⟩] [0, 1, 5])
    (.seq (.region [
      ⟨some 31, .mov (.tmp 0), none⟩,
      ⟨some 32, .mov (.tmp 5), none⟩,
      ⟨some 33, .iaddr 3 (.tmp 31) (.tmp 32), none⟩,
      ⟨some 34, .faddr (.tmp 33) 2, none⟩,
      ⟨some 35, .load (.tmp 34) 1 false .plain, none⟩,
      ⟨some 36, .mov (.tmp 1), none⟩,
      ⟨some 37, .call 127 [false, false] [.tmp 35, .tmp 36], none⟩,
      ⟨some 1, .mov (.tmp 37), none⟩] [0, 1, 5])
    (.seq (.region [
      ⟨some 38, .mov (.tmp 1), none⟩,
      ⟨some 39, .bin .lss (.tmp 38) (.const (.int .i64 0)), none⟩] [0, 1, 5, 39])
    (.cond (.tmp 39)
      (.seq (.region [
        ⟨some 4, .mov (.const (.int .i64 (-1))), none⟩] [4])
      .ret)
      .skip))))))))
  (.region [
    ⟨some 10, .mov (.tmp 5), none⟩,
    ⟨some 11, .bin .add (.tmp 10) (.const (.int .i64 1)), none⟩,
    ⟨some 5, .mov (.tmp 11), none⟩] [0, 1, 5])))
def c125 : CFn := ⟨41, [.tmp 4],
  (.seq (.region [
    ⟨some 4, .mov (.const (.int .i64 0)), none⟩] [0, 1])
  (.seq (.seq (.region [
    ⟨some 5, .mov (.const (.int .i64 0)), none⟩] [0, 1, 5])
  (.block 0
    (.loop [0, 1, 5] c125b0)))
  (.seq (.region [
    ⟨some 40, .mov (.tmp 1), none⟩,
    ⟨some 4, .mov (.tmp 40), none⟩] [4])
  .ret)))⟩
-- laws.heldMateGrantS
def c126b0 : CCode := (.seq (.seq (.region [
    ⟨some 6, .mov (.tmp 5), none⟩,
    ⟨some 7, .mov (.tmp 0), none⟩,
    ⟨some 8, .len false (.tmp 7), none⟩,
    ⟨some 9, .bin .lss (.tmp 6) (.tmp 8), none⟩] [0, 1, 5, 9])
  (.cond (.tmp 9)
    .skip
    (.exit 0)))
  (.seq (.block 1
    (.seq (.seq (.quiet [
      ⟨some 12, .mov (.tmp 0), none⟩,
      ⟨some 13, .mov (.tmp 5), none⟩,
      ⟨some 14, .iaddr 5 (.tmp 12) (.tmp 13), none⟩,
      ⟨some 15, .faddr (.tmp 14) 0, none⟩,
      ⟨some 16, .load (.tmp 15) 1 false .plain, none⟩,
      ⟨some 17, .mov (.tmp 1), none⟩,
      ⟨some 18, .call 96 [false] [.tmp 17], none⟩,
      ⟨some 19, .bin .neq (.tmp 16) (.tmp 18), none⟩] [0, 1, 5, 19])
    (.cond (.tmp 19)
      (.seq (.region [
        ⟨some 4, .mov (.const (.int .i64 (-1))), none⟩] [4])
      .ret)
      .skip))
    (.seq (.region [
      ⟨some 20, .mov (.tmp 1), none⟩,
      ⟨some 21, .bin .add (.tmp 20) (.const (.int .i64 1)), none⟩,
      ⟨some 1, .mov (.tmp 21), none⟩] [0, 1, 5])
    (.seq (.seq (.quiet [
      ⟨some 22, .mov (.tmp 0), none⟩,
      ⟨some 23, .mov (.tmp 5), none⟩,
      ⟨some 24, .iaddr 5 (.tmp 22) (.tmp 23), none⟩,
      ⟨some 25, .faddr (.tmp 24) 1, none⟩,
      ⟨some 26, .load (.tmp 25) 1 false .plain, none⟩,
      ⟨some 27, .mov (.tmp 1), none⟩,
      ⟨some 28, .call 96 [false] [.tmp 27], none⟩,
      ⟨some 29, .bin .neq (.tmp 26) (.tmp 28), none⟩] [0, 1, 5, 29])
    (.cond (.tmp 29)
      (.seq (.region [
        ⟨some 4, .mov (.const (.int .i64 (-1))), none⟩] [4])
      .ret)
      .skip))
    (.seq (.region [
      ⟨some 30, .mov (.tmp 1), none⟩,
      ⟨some 31, .bin .add (.tmp 30) (.const (.int .i64 1)), none⟩,
      ⟨some 1, .mov (.tmp 31), none⟩] [0, 1, 5])
    (.seq (.seq (.quiet [
      ⟨some 32, .mov (.tmp 0), none⟩,
      ⟨some 33, .mov (.tmp 5), none⟩,
      ⟨some 34, .iaddr 5 (.tmp 32) (.tmp 33), none⟩,
      ⟨some 35, .faddr (.tmp 34) 2, none⟩,
      ⟨some 36, .load (.tmp 35) 1 false .plain, none⟩,
      ⟨some 37, .mov (.tmp 1), none⟩,
      ⟨some 38, .call 96 [false] [.tmp 37], none⟩,
      ⟨some 39, .bin .neq (.tmp 36) (.tmp 38), none⟩] [0, 1, 5, 39])
    (.cond (.tmp 39)
      (.seq (.region [
        ⟨some 4, .mov (.const (.int .i64 (-1))), none⟩] [4])
      .ret)
      .skip))
    (.seq (.region [
      ⟨some 40, .mov (.tmp 1), none⟩,
      ⟨some 41, .bin .add (.tmp 40) (.const (.int .i64 1)), none⟩,
      ⟨some 1, .mov (.tmp 41), none⟩] [0, 1, 5])
    (.seq (.seq (.region [
      ⟨some 42, .mov (.tmp 0), none⟩,
      ⟨some 43, .mov (.tmp 5), none⟩,
      ⟨some 44, .iaddr 5 (.tmp 42) (.tmp 43), none⟩,
      ⟨some 45, .faddr (.tmp 44) 3, none⟩,
      ⟨some 46, .load (.tmp 45) 1 false .plain, none⟩,
      ⟨some 47, .mov (.tmp 1), none⟩,
      ⟨some 48, .bin .neq (.tmp 46) (.tmp 47), none⟩] [0, 1, 5, 48])
    (.cond (.tmp 48)
      (.seq (.region [
        ⟨some 4, .mov (.const (.int .i64 (-1))), none⟩] [4])
      .ret)
      .skip))
    (.seq (.region [
      ⟨some 49, .mov (.tmp 1), none⟩,
      ⟨some 50, .bin .add (.tmp 49) (.const (.int .i64 1)), none⟩,
      ⟨some 1, .mov (.tmp 50), none⟩] [0, 1, 5])
    (.seq (.seq (.region [
      ⟨some 51, .mov (.tmp 0), none⟩,
      ⟨some 52, .mov (.tmp 5), none⟩,
      ⟨some 53, .iaddr 5 (.tmp 51) (.tmp 52), none⟩,
      ⟨some 54, .faddr (.tmp 53) 4, none⟩,
      ⟨some 55, .load (.tmp 54) 1 false .plain, none⟩,
      ⟨some 56, .mov (.tmp 1), none⟩,
      ⟨some 57, .bin .neq (.tmp 55) (.tmp 56), none⟩] [0, 1, 5, 57])
    (.cond (.tmp 57)
      (.seq (.region [
        ⟨some 4, .mov (.const (.int .i64 (-1))), none⟩] [4])
      .ret)
      .skip))
    (.region [
      ⟨some 58, .mov (.tmp 1), none⟩,
      ⟨some 59, .bin .add (.tmp 58) (.const (.int .i64 1)), none⟩,
      ⟨some 1, .mov (.tmp 59), none⟩] [0, 1, 5])))))))))))
  (.region [
    ⟨some 10, .mov (.tmp 5), none⟩,
    ⟨some 11, .bin .add (.tmp 10) (.const (.int .i64 1)), none⟩,
    ⟨some 5, .mov (.tmp 11), none⟩] [0, 1, 5])))
def c126 : CFn := ⟨61, [.tmp 4],
  (.seq (.region [
    ⟨some 4, .mov (.const (.int .i64 0)), none⟩] [0, 1])
  (.seq (.seq (.region [
    ⟨some 5, .mov (.const (.int .i64 0)), none⟩] [0, 1, 5])
  (.block 0
    (.loop [0, 1, 5] c126b0)))
  (.seq (.region [
    ⟨some 60, .mov (.tmp 1), none⟩,
    ⟨some 4, .mov (.tmp 60), none⟩] [4])
  .ret)))⟩
-- laws.heldMateWantS
def c127b0 : CCode := (.seq (.seq (.region [
    ⟨some 6, .mov (.tmp 5), none⟩,
    ⟨some 7, .mov (.tmp 0), none⟩,
    ⟨some 8, .len false (.tmp 7), none⟩,
    ⟨some 9, .bin .lss (.tmp 6) (.tmp 8), none⟩] [0, 1, 5, 9])
  (.cond (.tmp 9)
    .skip
    (.exit 0)))
  (.seq (.block 1
    (.seq (.seq (.quiet [
      ⟨some 12, .mov (.tmp 0), none⟩,
      ⟨some 13, .mov (.tmp 5), none⟩,
      ⟨some 14, .iaddr 7 (.tmp 12) (.tmp 13), none⟩,
      ⟨some 15, .faddr (.tmp 14) 0, none⟩,
      ⟨some 16, .load (.tmp 15) 1 false .plain, none⟩,
      ⟨some 17, .mov (.tmp 1), none⟩,
      ⟨some 18, .call 96 [false] [.tmp 17], none⟩,
      ⟨some 19, .bin .neq (.tmp 16) (.tmp 18), none⟩] [0, 1, 5, 19])
    (.cond (.tmp 19)
      (.seq (.region [
        ⟨some 4, .mov (.const (.int .i64 (-1))), none⟩] [4])
      .ret)
      .skip))
    (.seq (.region [
      ⟨some 20, .mov (.tmp 1), none⟩,
      ⟨some 21, .bin .add (.tmp 20) (.const (.int .i64 1)), none⟩,
      ⟨some 1, .mov (.tmp 21), none⟩] [0, 1, 5])
    (.seq (.seq (.region [
      ⟨some 22, .mov (.tmp 0), none⟩,
      ⟨some 23, .mov (.tmp 5), none⟩,
      ⟨some 24, .iaddr 7 (.tmp 22) (.tmp 23), none⟩,
      ⟨some 25, .faddr (.tmp 24) 1, none⟩,
      ⟨some 26, .load (.tmp 25) 1 false .plain, none⟩,
      ⟨some 27, .mov (.tmp 1), none⟩,
      ⟨some 28, .bin .neq (.tmp 26) (.tmp 27), none⟩] [0, 1, 5, 28])
    (.cond (.tmp 28)
      (.seq (.region [
        ⟨some 4, .mov (.const (.int .i64 (-1))), none⟩] [4])
      .ret)
      .skip))
    (.seq (.region [
      ⟨some 29, .mov (.tmp 1), none⟩,
      ⟨some 30, .bin .add (.tmp 29) (.const (.int .i64 1)), none⟩,
      ⟨some 1, .mov (.tmp 30), none⟩] [0, 1, 5])
    (.seq (.seq (.quiet [
      ⟨some 31, .mov (.tmp 0), none⟩,
      ⟨some 32, .mov (.tmp 5), none⟩,
      ⟨some 33, .iaddr 7 (.tmp 31) (.tmp 32), none⟩,
      ⟨some 34, .faddr (.tmp 33) 2, none⟩,
      ⟨some 35, .load (.tmp 34) 1 false .plain, none⟩,
      ⟨some 36, .mov (.tmp 1), none⟩,
      ⟨some 37, .call 96 [false] [.tmp 36], none⟩,
      ⟨some 38, .bin .neq (.tmp 35) (.tmp 37), none⟩] [0, 1, 5, 38])
    (.cond (.tmp 38)
      (.seq (.region [
        ⟨some 4, .mov (.const (.int .i64 (-1))), none⟩] [4])
      .ret)
      .skip))
    (.seq (.region [
      ⟨some 39, .mov (.tmp 1), none⟩,
      ⟨some 40, .bin .add (.tmp 39) (.const (.int .i64 1)), none⟩,
      ⟨some 1, .mov (.tmp 40), none⟩] [0, 1, 5])
    (.seq (.seq (.region [
      ⟨some 41, .mov (.tmp 0), none⟩,
      ⟨some 42, .mov (.tmp 5), none⟩,
      ⟨some 43, .iaddr 7 (.tmp 41) (.tmp 42), none⟩,
      ⟨some 44, .faddr (.tmp 43) 3, none⟩,
      ⟨some 45, .load (.tmp 44) 1 false .plain, none⟩,
      ⟨some 46, .mov (.tmp 1), none⟩,
      ⟨some 47, .bin .neq (.tmp 45) (.tmp 46), none⟩] [0, 1, 5, 47])
    (.cond (.tmp 47)
      (.seq (.region [
        ⟨some 4, .mov (.const (.int .i64 (-1))), none⟩] [4])
      .ret)
      .skip))
    (.seq (.region [
      ⟨some 48, .mov (.tmp 1), none⟩,
      ⟨some 49, .bin .add (.tmp 48) (.const (.int .i64 1)), none⟩,
      ⟨some 1, .mov (.tmp 49), none⟩] [0, 1, 5])
    (.seq (.seq (.region [
      ⟨some 50, .mov (.tmp 0), none⟩,
      ⟨some 51, .mov (.tmp 5), none⟩,
      ⟨some 52, .iaddr 7 (.tmp 50) (.tmp 51), none⟩,
      ⟨some 53, .faddr (.tmp 52) 4, none⟩,
      ⟨some 54, .load (.tmp 53) 1 false .plain, none⟩,
      ⟨some 55, .mov (.tmp 1), none⟩,
      ⟨some 56, .bin .neq (.tmp 54) (.tmp 55), none⟩] [0, 1, 5, 56])
    (.cond (.tmp 56)
      (.seq (.region [
        ⟨some 4, .mov (.const (.int .i64 (-1))), none⟩] [4])
      .ret)
      .skip))
    (.seq (.region [
      ⟨some 57, .mov (.tmp 1), none⟩,
      ⟨some 58, .bin .add (.tmp 57) (.const (.int .i64 1)), none⟩,
      ⟨some 1, .mov (.tmp 58), none⟩] [0, 1, 5])
    (.seq (.seq (.region [
      ⟨some 59, .mov (.tmp 0), none⟩,
      ⟨some 60, .mov (.tmp 5), none⟩,
      ⟨some 61, .iaddr 7 (.tmp 59) (.tmp 60), none⟩,
      ⟨some 62, .faddr (.tmp 61) 5, none⟩,
      ⟨some 63, .load (.tmp 62) 1 false .plain, none⟩,
      ⟨some 64, .mov (.tmp 1), none⟩,
      ⟨some 65, .bin .neq (.tmp 63) (.tmp 64), none⟩] [0, 1, 5, 65])
    (.cond (.tmp 65)
      (.seq (.region [
        ⟨some 4, .mov (.const (.int .i64 (-1))), none⟩] [4])
      .ret)
      .skip))
    (.seq (.region [
      ⟨some 66, .mov (.tmp 1), none⟩,
      ⟨some 67, .bin .add (.tmp 66) (.const (.int .i64 1)), none⟩,
      ⟨some 1, .mov (.tmp 67), none⟩] [0, 1, 5])
    (.seq (.seq (.region [
      ⟨some 68, .mov (.tmp 0), none⟩,
      ⟨some 69, .mov (.tmp 5), none⟩,
      ⟨some 70, .iaddr 7 (.tmp 68) (.tmp 69), none⟩,
      ⟨some 71, .faddr (.tmp 70) 6, none⟩,
      ⟨some 72, .load (.tmp 71) 1 false .plain, none⟩,
      ⟨some 73, .mov (.tmp 1), none⟩,
      ⟨some 74, .bin .neq (.tmp 72) (.tmp 73), none⟩] [0, 1, 5, 74])
    (.cond (.tmp 74)
      (.seq (.region [
        ⟨some 4, .mov (.const (.int .i64 (-1))), none⟩] [4])
      .ret)
      .skip))
    (.region [
      ⟨some 75, .mov (.tmp 1), none⟩,
      ⟨some 76, .bin .add (.tmp 75) (.const (.int .i64 1)), none⟩,
      ⟨some 1, .mov (.tmp 76), none⟩] [0, 1, 5])))))))))))))))
  (.region [
    ⟨some 10, .mov (.tmp 5), none⟩,
    ⟨some 11, .bin .add (.tmp 10) (.const (.int .i64 1)), none⟩,
    ⟨some 5, .mov (.tmp 11), none⟩] [0, 1, 5])))
def c127 : CFn := ⟨78, [.tmp 4],
  (.seq (.region [
    ⟨some 4, .mov (.const (.int .i64 0)), none⟩] [0, 1])
  (.seq (.seq (.region [
    ⟨some 5, .mov (.const (.int .i64 0)), none⟩] [0, 1, 5])
  (.block 0
    (.loop [0, 1, 5] c127b0)))
  (.seq (.region [
    ⟨some 77, .mov (.tmp 1), none⟩,
    ⟨some 4, .mov (.tmp 77), none⟩] [4])
  .ret)))⟩
-- laws.szMateGrant
def c146 : CFn := ⟨27, [.tmp 4],
  (.seq (.region [
    ⟨some 2, .box (.tmp 0), none⟩,
    ⟨some 4, .mov (.const (.int .i64 0)), none⟩] [1, 2])
  (.seq (.region [
    ⟨some 5, .mov (.tmp 1), none⟩,
    ⟨some 6, .faddr (.tmp 2) 0, none⟩,
    ⟨some 7, .load (.tmp 6) 1 false .plain, none⟩,
    ⟨some 8, .len true (.tmp 7), none⟩,
    ⟨some 9, .bin .sub (.tmp 5) (.tmp 8), none⟩,
    ⟨some 1, .mov (.tmp 9), none⟩] [1, 2])
  (.seq (.seq (.region [
    ⟨some 10, .mov (.tmp 1), none⟩,
    ⟨some 11, .bin .lss (.tmp 10) (.const (.int .i64 0)), none⟩] [1, 2, 11])
  (.cond (.tmp 11)
    (.seq (.region [
      ⟨some 4, .mov (.const (.int .i64 (-1))), none⟩] [4])
    .ret)
    .skip))
  (.seq (.region [
    ⟨some 12, .mov (.tmp 1), none⟩,
    ⟨some 13, .faddr (.tmp 2) 1, none⟩,
    ⟨some 14, .load (.tmp 13) 1 false .plain, none⟩,
    ⟨some 15, .len true (.tmp 14), none⟩,
    ⟨some 16, .bin .sub (.tmp 12) (.tmp 15), none⟩,
    ⟨some 1, .mov (.tmp 16), none⟩] [1, 2])
  (.seq (.seq (.region [
    ⟨some 17, .mov (.tmp 1), none⟩,
    ⟨some 18, .bin .lss (.tmp 17) (.const (.int .i64 0)), none⟩] [1, 2, 18])
  (.cond (.tmp 18)
    (.seq (.region [
      ⟨some 4, .mov (.const (.int .i64 (-1))), none⟩] [4])
    .ret)
    .skip))
  (.seq (.region [
    ⟨some 19, .mov (.tmp 1), none⟩,
    ⟨some 20, .faddr (.tmp 2) 2, none⟩,
    ⟨some 21, .load (.tmp 20) 1 false .plain, none⟩,
    ⟨some 22, .len true (.tmp 21), none⟩,
    ⟨some 23, .bin .sub (.tmp 19) (.tmp 22), none⟩,
    ⟨some 1, .mov (.tmp 23), none⟩] [1])
  (.seq (.seq (.region [
    ⟨some 24, .mov (.tmp 1), none⟩,
    ⟨some 25, .bin .lss (.tmp 24) (.const (.int .i64 0)), none⟩] [1, 25])
  (.cond (.tmp 25)
    (.seq (.region [
      ⟨some 4, .mov (.const (.int .i64 (-1))), none⟩] [4])
    .ret)
    .skip))
  (.seq (.region [
    ⟨some 26, .mov (.tmp 1), none⟩,
    ⟨some 4, .mov (.tmp 26), none⟩] [4])
  .ret))))))))⟩
-- laws.szMatePlace
def c147 : CFn := ⟨19, [.tmp 4],
  (.seq (.region [
    ⟨some 2, .box (.tmp 0), none⟩,
    ⟨some 4, .mov (.const (.int .i64 0)), none⟩] [1, 2])
  (.seq (.region [
    ⟨some 5, .mov (.tmp 1), none⟩,
    ⟨some 6, .faddr (.tmp 2) 0, none⟩,
    ⟨some 7, .load (.tmp 6) 1 false .plain, none⟩,
    ⟨some 8, .len true (.tmp 7), none⟩,
    ⟨some 9, .bin .sub (.tmp 5) (.tmp 8), none⟩,
    ⟨some 1, .mov (.tmp 9), none⟩] [1, 2])
  (.seq (.seq (.region [
    ⟨some 10, .mov (.tmp 1), none⟩,
    ⟨some 11, .bin .lss (.tmp 10) (.const (.int .i64 0)), none⟩] [1, 2, 11])
  (.cond (.tmp 11)
    (.seq (.region [
      ⟨some 4, .mov (.const (.int .i64 (-1))), none⟩] [4])
    .ret)
    .skip))
  (.seq (.region [
    ⟨some 12, .faddr (.tmp 2) 2, none⟩,
    ⟨some 13, .load (.tmp 12) 1 false .plain, none⟩,
    ⟨some 14, .mov (.tmp 1), none⟩,
    ⟨some 15, .call 8 [false, false] [.tmp 13, .tmp 14], none⟩,
    ⟨some 1, .mov (.tmp 15), none⟩] [1])
  (.seq (.seq (.region [
    ⟨some 16, .mov (.tmp 1), none⟩,
    ⟨some 17, .bin .lss (.tmp 16) (.const (.int .i64 0)), none⟩] [1, 17])
  (.cond (.tmp 17)
    (.seq (.region [
      ⟨some 4, .mov (.const (.int .i64 (-1))), none⟩] [4])
    .ret)
    .skip))
  (.seq (.region [
    ⟨some 18, .mov (.tmp 1), none⟩,
    ⟨some 4, .mov (.tmp 18), none⟩] [4])
  .ret))))))⟩
-- laws.toMateGrant
def c148 : CFn := ⟨20, [.cell 2 5 true],
  (.seq (.region [
    ⟨some 1, .box (.tmp 0), none⟩,
    ⟨some 2, .alloc [.str ⟨#[]⟩, .str ⟨#[]⟩, .str ⟨#[]⟩, .int .i64 0, .int .i64 0], none⟩] [1, 2])
  (.seq (.region [
    ⟨some 3, .alloc [.str ⟨#[]⟩, .str ⟨#[]⟩, .str ⟨#[]⟩, .int .i64 0, .int .i64 0], none⟩] [1, 2, 3])
  (.seq (.region [
    ⟨some 4, .faddr (.tmp 1) 0, none⟩,
    ⟨some 5, .load (.tmp 4) 1 false .plain, none⟩,
    ⟨some 6, .faddr (.tmp 3) 0, none⟩,
    ⟨none, .store (.tmp 6) (.tmp 5) 1, none⟩] [1, 2, 3])
  (.seq (.region [
    ⟨some 7, .faddr (.tmp 1) 1, none⟩,
    ⟨some 8, .load (.tmp 7) 1 false .plain, none⟩,
    ⟨some 9, .faddr (.tmp 3) 1, none⟩,
    ⟨none, .store (.tmp 9) (.tmp 8) 1, none⟩] [1, 2, 3])
  (.seq (.region [
    ⟨some 10, .faddr (.tmp 1) 2, none⟩,
    ⟨some 11, .load (.tmp 10) 1 false .plain, none⟩,
    ⟨some 12, .faddr (.tmp 3) 2, none⟩,
    ⟨none, .store (.tmp 12) (.tmp 11) 1, none⟩] [1, 2, 3])
  (.seq (.region [
    ⟨some 13, .faddr (.tmp 1) 3, none⟩,
    ⟨some 14, .load (.tmp 13) 1 false .plain, none⟩,
    ⟨some 15, .faddr (.tmp 3) 3, none⟩,
    ⟨none, .store (.tmp 15) (.tmp 14) 1, none⟩] [1, 2, 3])
  (.seq (.region [
    ⟨some 16, .faddr (.tmp 1) 4, none⟩,
    ⟨some 17, .load (.tmp 16) 1 false .plain, none⟩,
    ⟨some 18, .faddr (.tmp 3) 4, none⟩,
    ⟨none, .store (.tmp 18) (.tmp 17) 1, none⟩] [2, 3])
  (.seq (.region [
    ⟨some 19, .load (.tmp 3) 5 true .plain, none⟩,
    ⟨none, .store (.tmp 2) (.tmp 19) 5, none⟩] [2])
  .ret))))))))⟩
-- laws.toMatePlace
def c149 : CFn := ⟨15, [.cell 2 3 true],
  (.seq (.region [
    ⟨some 1, .box (.tmp 0), none⟩,
    ⟨some 2, .alloc [.str ⟨#[]⟩, .int .i64 0, .sl .own 7 []], none⟩] [1, 2])
  (.seq (.region [
    ⟨some 3, .alloc [.str ⟨#[]⟩, .int .i64 0, .sl .own 7 []], none⟩] [1, 2, 3])
  (.seq (.region [
    ⟨some 4, .faddr (.tmp 1) 0, none⟩,
    ⟨some 5, .load (.tmp 4) 1 false .plain, none⟩,
    ⟨some 6, .faddr (.tmp 3) 0, none⟩,
    ⟨none, .store (.tmp 6) (.tmp 5) 1, none⟩] [1, 2, 3])
  (.seq (.region [
    ⟨some 7, .faddr (.tmp 1) 1, none⟩,
    ⟨some 8, .load (.tmp 7) 1 false .plain, none⟩,
    ⟨some 9, .faddr (.tmp 3) 1, none⟩,
    ⟨none, .store (.tmp 9) (.tmp 8) 1, none⟩] [1, 2, 3])
  (.seq (.region [
    ⟨some 10, .faddr (.tmp 1) 2, none⟩,
    ⟨some 11, .load (.tmp 10) 1 false .plain, none⟩,
    ⟨some 12, .call 4 [false] [.tmp 11], none⟩,
    ⟨some 13, .faddr (.tmp 3) 2, none⟩,
    ⟨none, .store (.tmp 13) (.tmp 12) 1, none⟩] [2, 3])
  (.seq (.region [
    ⟨some 14, .load (.tmp 3) 3 true .plain, none⟩,
    ⟨none, .store (.tmp 2) (.tmp 14) 3, none⟩] [2])
  .ret))))))⟩
-- laws.eqMateGrant
def c150 : CFn := ⟨30, [.tmp 4],
  (.seq (.region [
    ⟨some 2, .box (.tmp 0), none⟩,
    ⟨some 3, .box (.tmp 1), none⟩,
    ⟨some 4, .mov (.const (.bool false)), none⟩] [2, 3])
  (.seq (.seq (.region [
    ⟨some 5, .faddr (.tmp 2) 0, none⟩,
    ⟨some 6, .load (.tmp 5) 1 false .plain, none⟩,
    ⟨some 7, .faddr (.tmp 3) 0, none⟩,
    ⟨some 8, .load (.tmp 7) 1 false .plain, none⟩,
    ⟨some 9, .bin .neq (.tmp 6) (.tmp 8), none⟩] [2, 3, 9])
  (.cond (.tmp 9)
    (.seq (.region [
      ⟨some 4, .mov (.const (.bool false)), none⟩] [4])
    .ret)
    .skip))
  (.seq (.seq (.region [
    ⟨some 10, .faddr (.tmp 2) 1, none⟩,
    ⟨some 11, .load (.tmp 10) 1 false .plain, none⟩,
    ⟨some 12, .faddr (.tmp 3) 1, none⟩,
    ⟨some 13, .load (.tmp 12) 1 false .plain, none⟩,
    ⟨some 14, .bin .neq (.tmp 11) (.tmp 13), none⟩] [2, 3, 14])
  (.cond (.tmp 14)
    (.seq (.region [
      ⟨some 4, .mov (.const (.bool false)), none⟩] [4])
    .ret)
    .skip))
  (.seq (.seq (.region [
    ⟨some 15, .faddr (.tmp 2) 2, none⟩,
    ⟨some 16, .load (.tmp 15) 1 false .plain, none⟩,
    ⟨some 17, .faddr (.tmp 3) 2, none⟩,
    ⟨some 18, .load (.tmp 17) 1 false .plain, none⟩,
    ⟨some 19, .bin .neq (.tmp 16) (.tmp 18), none⟩] [2, 3, 19])
  (.cond (.tmp 19)
    (.seq (.region [
      ⟨some 4, .mov (.const (.bool false)), none⟩] [4])
    .ret)
    .skip))
  (.seq (.seq (.region [
    ⟨some 20, .faddr (.tmp 2) 3, none⟩,
    ⟨some 21, .load (.tmp 20) 1 false .plain, none⟩,
    ⟨some 22, .faddr (.tmp 3) 3, none⟩,
    ⟨some 23, .load (.tmp 22) 1 false .plain, none⟩,
    ⟨some 24, .bin .neq (.tmp 21) (.tmp 23), none⟩] [2, 3, 24])
  (.cond (.tmp 24)
    (.seq (.region [
      ⟨some 4, .mov (.const (.bool false)), none⟩] [4])
    .ret)
    .skip))
  (.seq (.seq (.region [
    ⟨some 25, .faddr (.tmp 2) 4, none⟩,
    ⟨some 26, .load (.tmp 25) 1 false .plain, none⟩,
    ⟨some 27, .faddr (.tmp 3) 4, none⟩,
    ⟨some 28, .load (.tmp 27) 1 false .plain, none⟩,
    ⟨some 29, .bin .neq (.tmp 26) (.tmp 28), none⟩] [29])
  (.cond (.tmp 29)
    (.seq (.region [
      ⟨some 4, .mov (.const (.bool false)), none⟩] [4])
    .ret)
    .skip))
  (.seq (.region [
    ⟨some 4, .mov (.const (.bool true)), none⟩] [4])
  .ret)))))))⟩
-- laws.eqMatePlace
def c151 : CFn := ⟨21, [.tmp 4],
  (.seq (.region [
    ⟨some 2, .box (.tmp 0), none⟩,
    ⟨some 3, .box (.tmp 1), none⟩,
    ⟨some 4, .mov (.const (.bool false)), none⟩] [2, 3])
  (.seq (.seq (.region [
    ⟨some 5, .faddr (.tmp 2) 0, none⟩,
    ⟨some 6, .load (.tmp 5) 1 false .plain, none⟩,
    ⟨some 7, .faddr (.tmp 3) 0, none⟩,
    ⟨some 8, .load (.tmp 7) 1 false .plain, none⟩,
    ⟨some 9, .bin .neq (.tmp 6) (.tmp 8), none⟩] [2, 3, 9])
  (.cond (.tmp 9)
    (.seq (.region [
      ⟨some 4, .mov (.const (.bool false)), none⟩] [4])
    .ret)
    .skip))
  (.seq (.seq (.region [
    ⟨some 10, .faddr (.tmp 2) 1, none⟩,
    ⟨some 11, .load (.tmp 10) 1 false .plain, none⟩,
    ⟨some 12, .faddr (.tmp 3) 1, none⟩,
    ⟨some 13, .load (.tmp 12) 1 false .plain, none⟩,
    ⟨some 14, .bin .neq (.tmp 11) (.tmp 13), none⟩] [2, 3, 14])
  (.cond (.tmp 14)
    (.seq (.region [
      ⟨some 4, .mov (.const (.bool false)), none⟩] [4])
    .ret)
    .skip))
  (.seq (.seq (.region [
    ⟨some 15, .faddr (.tmp 2) 2, none⟩,
    ⟨some 16, .load (.tmp 15) 1 false .plain, none⟩,
    ⟨some 17, .faddr (.tmp 3) 2, none⟩,
    ⟨some 18, .load (.tmp 17) 1 false .plain, none⟩,
    ⟨some 19, .call 5 [false, false] [.tmp 16, .tmp 18], none⟩,
    ⟨some 20, .un .not (.tmp 19), none⟩] [20])
  (.cond (.tmp 20)
    (.seq (.region [
      ⟨some 4, .mov (.const (.bool false)), none⟩] [4])
    .ret)
    .skip))
  (.seq (.region [
    ⟨some 4, .mov (.const (.bool true)), none⟩] [4])
  .ret)))))⟩
-- laws.FnExactMatePut
def c180 : CFn := ⟨127, [.tmp 6],
  (.seq (.region [
    ⟨some 3, .box (.tmp 0), none⟩,
    ⟨some 6, .mov (.const (.bool false)), none⟩] [1, 2, 3])
  (.seq (.seq (.region [
    ⟨some 19, .mov (.tmp 1), none⟩,
    ⟨some 20, .len true (.tmp 19), none⟩,
    ⟨some 21, .bin .gtr (.tmp 20) (.const (.int .i64 1048576)), none⟩] [1, 2, 3, 21])
  (.cond (.tmp 21)
    (.seq (.region [
      ⟨some 6, .mov (.const (.bool true)), none⟩] [6])
    .ret)
    .skip))
  (.seq (.region [
    ⟨some 7, .mov (.const (.int .i64 1048576)), none⟩] [1, 2, 3, 7])
  (.seq (.region [
    ⟨some 22, .load (.tmp 3) 3 true .plain, none⟩,
    ⟨some 23, .mov (.tmp 7), none⟩,
    ⟨some 24, .call 25 [false, false] [.tmp 22, .tmp 23], none⟩,
    ⟨some 7, .mov (.tmp 24), none⟩] [1, 2, 3, 7])
  (.seq (.seq (.region [
    ⟨some 25, .mov (.tmp 7), none⟩,
    ⟨some 26, .bin .lss (.tmp 25) (.const (.int .i64 0)), none⟩] [1, 2, 3, 7, 26])
  (.cond (.tmp 26)
    (.seq (.region [
      ⟨some 6, .mov (.const (.bool true)), none⟩] [6])
    .ret)
    .skip))
  (.seq (.region [
    ⟨some 27, .mov (.tmp 2), none⟩,
    ⟨some 28, .mov (.tmp 7), none⟩,
    ⟨some 29, .call 8 [false, false] [.tmp 27, .tmp 28], none⟩,
    ⟨some 7, .mov (.tmp 29), none⟩] [1, 2, 3, 7])
  (.seq (.seq (.region [
    ⟨some 30, .mov (.tmp 7), none⟩,
    ⟨some 31, .bin .lss (.tmp 30) (.const (.int .i64 0)), none⟩] [1, 2, 3, 31])
  (.cond (.tmp 31)
    (.seq (.region [
      ⟨some 6, .mov (.const (.bool true)), none⟩] [6])
    .ret)
    .skip))
  (.seq (.region [
    ⟨some 33, .load (.tmp 3) 3 true .plain, none⟩,
    ⟨some 34, .call 21 [false] [.tmp 33], none⟩,
    ⟨some 35, .mov (.tmp 1), none⟩,
    ⟨some 36, .mov (.tmp 2), none⟩,
    ⟨some 37, .call 4 [false] [.tmp 36], none⟩,
    ⟨some 38, .call 72 [false, false, false] [.tmp 34, .tmp 35, .tmp 37], none⟩,
    ⟨some 32, .mov (.tmp 38), none⟩,
    ⟨some 39, .ext (.tmp 32) 0, none⟩,
    ⟨some 40, .ext (.tmp 32) 1, none⟩,
    ⟨some 8, .alloc [.int .i64 0, .sl .own 5 [], .sl .own 3 []], none⟩,
    ⟨none, .store (.tmp 8) (.tmp 39) 3, none⟩,
    ⟨some 9, .mov (.tmp 40), none⟩] [1, 2, 3, 8, 9])
  (.seq (.region [
    ⟨some 41, .load (.tmp 3) 3 true .plain, none⟩,
    ⟨some 42, .call 21 [false] [.tmp 41], none⟩,
    ⟨some 10, .alloc [.int .i64 0, .sl .own 5 [], .sl .own 3 []], none⟩,
    ⟨none, .store (.tmp 10) (.tmp 42) 3, none⟩] [1, 2, 3, 8, 9, 10])
  (.seq (.region [
    ⟨some 43, .mov (.tmp 2), none⟩,
    ⟨some 44, .call 4 [false] [.tmp 43], none⟩,
    ⟨some 11, .mov (.tmp 44), none⟩] [1, 2, 3, 8, 9, 10, 11])
  (.seq (.region [
    ⟨some 46, .load (.tmp 10) 3 true .plain, none⟩,
    ⟨some 47, .mov (.tmp 1), none⟩,
    ⟨some 48, .mov (.tmp 11), none⟩,
    ⟨some 49, .call 70 [false, false, false] [.tmp 46, .tmp 47, .tmp 48], none⟩,
    ⟨some 45, .mov (.tmp 49), none⟩,
    ⟨some 50, .ext (.tmp 45) 0, none⟩,
    ⟨some 51, .ext (.tmp 45) 1, none⟩,
    ⟨some 12, .alloc [.int .i64 0, .sl .own 5 [], .sl .own 3 []], none⟩,
    ⟨none, .store (.tmp 12) (.tmp 50) 3, none⟩,
    ⟨some 13, .mov (.tmp 51), none⟩] [1, 2, 3, 8, 9, 10, 11, 12, 13])
  (.seq (.seq (.region [
    ⟨some 52, .load (.tmp 12) 3 true .plain, none⟩,
    ⟨some 53, .load (.tmp 8) 3 true .plain, none⟩,
    ⟨some 54, .call 22 [false, false] [.tmp 52, .tmp 53], none⟩,
    ⟨some 55, .un .not (.tmp 54), none⟩,
    ⟨some 56, .mov (.tmp 55), none⟩,
    ⟨some 57, .mov (.tmp 13), some (56, false)⟩,
    ⟨some 58, .mov (.tmp 9), some (56, false)⟩,
    ⟨some 59, .bin .neq (.tmp 57) (.tmp 58), some (56, false)⟩,
    ⟨some 60, .pick (.tmp 56) (.const (.bool true)) (.tmp 59), none⟩] [1, 2, 3, 8, 9, 10, 11, 12, 13, 60])
  (.cond (.tmp 60)
    (.seq (.region [
      ⟨some 6, .mov (.const (.bool false)), none⟩] [6])
    .ret)
    .skip))
  (.seq (.seq (.loud [
    ⟨some 61, .load (.tmp 10) 3 true .plain, none⟩,
    ⟨some 62, .load (.tmp 3) 3 true .plain, none⟩,
    ⟨some 63, .call 21 [false] [.tmp 62], none⟩,
    ⟨some 64, .call 22 [false, false] [.tmp 61, .tmp 63], none⟩,
    ⟨some 65, .un .not (.tmp 64), none⟩] [0, 0, 2, 7, 15] [1, 2, 3, 8, 9, 10, 11, 12, 13, 65])
  (.cond (.tmp 65)
    (.seq (.region [
      ⟨some 6, .mov (.const (.bool false)), none⟩] [6])
    .ret)
    .skip))
  (.seq (.seq (.region [
    ⟨some 66, .mov (.tmp 11), none⟩,
    ⟨some 67, .mov (.tmp 2), none⟩,
    ⟨some 68, .call 4 [false] [.tmp 67], none⟩,
    ⟨some 69, .call 5 [false, false] [.tmp 66, .tmp 68], none⟩,
    ⟨some 70, .un .not (.tmp 69), none⟩] [1, 2, 3, 8, 9, 10, 11, 12, 13, 70])
  (.cond (.tmp 70)
    (.seq (.region [
      ⟨some 6, .mov (.const (.bool false)), none⟩] [6])
    .ret)
    .skip))
  (.seq (.region [
    ⟨some 14, .mov (.const (.int .i64 1)), none⟩] [1, 2, 3, 8, 9, 10, 11, 12, 13, 14])
  (.seq (.region [
    ⟨some 71, .load (.tmp 10) 3 true .plain, none⟩,
    ⟨some 72, .mov (.tmp 14), none⟩,
    ⟨some 73, .call 43 [true, false] [.tmp 71, .tmp 72], none⟩,
    ⟨some 14, .mov (.tmp 73), none⟩] [1, 2, 3, 8, 9, 11, 12, 13, 14])
  (.seq (.region [
    ⟨some 74, .mov (.tmp 11), none⟩,
    ⟨some 75, .mov (.tmp 14), none⟩,
    ⟨some 76, .call 71 [true, false] [.tmp 74, .tmp 75], none⟩,
    ⟨some 14, .mov (.tmp 76), none⟩] [1, 2, 3, 8, 9, 12, 13, 14])
  (.seq (.seq (.region [
    ⟨some 77, .mov (.tmp 14), none⟩,
    ⟨some 78, .bin .lss (.tmp 77) (.const (.int .i64 0)), none⟩,
    ⟨some 79, .mov (.tmp 78), none⟩,
    ⟨some 80, .load (.tmp 12) 3 true .plain, some (79, false)⟩,
    ⟨some 81, .load (.tmp 8) 3 true .plain, some (79, false)⟩,
    ⟨some 82, .call 22 [false, false] [.tmp 80, .tmp 81], some (79, false)⟩,
    ⟨some 83, .un .not (.tmp 82), some (79, false)⟩,
    ⟨some 84, .pick (.tmp 79) (.const (.bool true)) (.tmp 83), none⟩,
    ⟨some 85, .mov (.tmp 84), none⟩,
    ⟨some 86, .mov (.tmp 13), some (85, false)⟩,
    ⟨some 87, .mov (.tmp 9), some (85, false)⟩,
    ⟨some 88, .bin .neq (.tmp 86) (.tmp 87), some (85, false)⟩,
    ⟨some 89, .pick (.tmp 85) (.const (.bool true)) (.tmp 88), none⟩] [1, 2, 3, 8, 9, 12, 89])
  (.cond (.tmp 89)
    (.seq (.region [
      ⟨some 6, .mov (.const (.bool false)), none⟩] [6])
    .ret)
    .skip))
  (.seq (.region [
    ⟨some 15, .mov (.const (.int .i64 1)), none⟩] [1, 2, 3, 8, 9, 12, 15])
  (.seq (.region [
    ⟨some 90, .load (.tmp 12) 3 true .plain, none⟩,
    ⟨some 91, .mov (.tmp 15), none⟩,
    ⟨some 92, .call 43 [true, false] [.tmp 90, .tmp 91], none⟩,
    ⟨some 15, .mov (.tmp 92), none⟩] [1, 2, 3, 8, 9, 12, 15])
  (.seq (.region [
    ⟨some 16, .mov (.const (.int .i64 1)), none⟩] [1, 2, 3, 8, 9, 12, 15, 16])
  (.seq (.region [
    ⟨some 93, .load (.tmp 12) 3 true .plain, none⟩,
    ⟨some 94, .mov (.tmp 16), none⟩,
    ⟨some 95, .call 39 [false, false] [.tmp 93, .tmp 94], none⟩,
    ⟨some 16, .mov (.tmp 95), none⟩] [1, 2, 3, 8, 9, 12, 15, 16])
  (.seq (.seq (.region [
    ⟨some 96, .mov (.tmp 16), none⟩,
    ⟨some 97, .bin .lss (.tmp 96) (.const (.int .i64 0)), none⟩] [1, 2, 3, 8, 9, 12, 15, 16, 97])
  (.cond (.tmp 97)
    (.seq (.region [
      ⟨some 6, .mov (.const (.bool false)), none⟩] [6])
    .ret)
    .skip))
  (.seq (.seq (.region [
    ⟨some 98, .mov (.tmp 16), none⟩,
    ⟨some 99, .mov (.tmp 15), none⟩,
    ⟨some 100, .bin .neq (.tmp 98) (.tmp 99), none⟩] [1, 2, 3, 8, 9, 12, 15, 100])
  (.cond (.tmp 100)
    (.seq (.region [
      ⟨some 6, .mov (.const (.bool false)), none⟩] [6])
    .ret)
    .skip))
  (.seq (.region [
    ⟨some 102, .load (.tmp 3) 3 true .plain, none⟩,
    ⟨some 103, .call 21 [false] [.tmp 102], none⟩,
    ⟨some 104, .mov (.tmp 1), none⟩,
    ⟨some 105, .mov (.tmp 2), none⟩,
    ⟨some 106, .call 4 [false] [.tmp 105], none⟩,
    ⟨some 107, .call 70 [false, false, false] [.tmp 103, .tmp 104, .tmp 106], none⟩,
    ⟨some 101, .mov (.tmp 107), none⟩,
    ⟨some 108, .ext (.tmp 101) 0, none⟩,
    ⟨some 109, .ext (.tmp 101) 1, none⟩,
    ⟨some 17, .alloc [.int .i64 0, .sl .own 5 [], .sl .own 3 []], none⟩,
    ⟨none, .store (.tmp 17) (.tmp 108) 3, none⟩,
    ⟨some 18, .mov (.tmp 109), none⟩] [8, 9, 12, 15, 17, 18])
  (.seq (.seq (.region [
    ⟨some 110, .load (.tmp 17) 3 true .plain, none⟩,
    ⟨some 111, .load (.tmp 8) 3 true .plain, none⟩,
    ⟨some 112, .call 22 [false, false] [.tmp 110, .tmp 111], none⟩,
    ⟨some 113, .un .not (.tmp 112), none⟩,
    ⟨some 114, .mov (.tmp 113), none⟩,
    ⟨some 115, .mov (.tmp 18), some (114, false)⟩,
    ⟨some 116, .mov (.tmp 9), some (114, false)⟩,
    ⟨some 117, .bin .neq (.tmp 115) (.tmp 116), some (114, false)⟩,
    ⟨some 118, .pick (.tmp 114) (.const (.bool true)) (.tmp 117), none⟩] [12, 15, 118])
  (.cond (.tmp 118)
    (.seq (.region [
      ⟨some 6, .mov (.const (.bool false)), none⟩] [6])
    .ret)
    .skip))
  (.seq (.region [
    ⟨some 16, .mov (.const (.int .i64 1)), none⟩] [12, 15, 16])
  (.seq (.region [
    ⟨some 119, .load (.tmp 12) 3 true .plain, none⟩,
    ⟨some 120, .mov (.tmp 16), none⟩,
    ⟨some 121, .call 39 [false, false] [.tmp 119, .tmp 120], none⟩,
    ⟨some 16, .mov (.tmp 121), none⟩] [15, 16])
  (.seq (.seq (.region [
    ⟨some 122, .mov (.tmp 16), none⟩,
    ⟨some 123, .bin .lss (.tmp 122) (.const (.int .i64 0)), none⟩] [15, 16, 123])
  (.cond (.tmp 123)
    (.seq (.region [
      ⟨some 6, .mov (.const (.bool false)), none⟩] [6])
    .ret)
    .skip))
  (.seq (.seq (.region [
    ⟨some 124, .mov (.tmp 16), none⟩,
    ⟨some 125, .mov (.tmp 15), none⟩,
    ⟨some 126, .bin .neq (.tmp 124) (.tmp 125), none⟩] [126])
  (.cond (.tmp 126)
    (.seq (.region [
      ⟨some 6, .mov (.const (.bool false)), none⟩] [6])
    .ret)
    .skip))
  (.seq (.region [
    ⟨some 6, .mov (.const (.bool true)), none⟩] [6])
  .ret)))))))))))))))))))))))))))))))⟩
/-- The functions' own table. -/
def codeOf (k : Nat) : Option CFn :=
  match k with
  | 4 => some c4
  | 5 => some c5
  | 6 => some c6
  | 7 => some c7
  | 8 => some c8
  | 21 => some c21
  | 22 => some c22
  | 23 => some c23
  | 24 => some c24
  | 25 => some c25
  | 39 => some c39
  | 43 => some c43
  | 70 => some c70
  | 71 => some c71
  | 72 => some c72
  | 79 => some c79
  | 80 => some c80
  | 81 => some c81
  | 82 => some c82
  | 83 => some c83
  | 85 => some c85
  | 96 => some c96
  | 97 => some c97
  | 98 => some c98
  | 99 => some c99
  | 100 => some c100
  | 101 => some c101
  | 102 => some c102
  | 103 => some c103
  | 104 => some c104
  | 105 => some c105
  | 106 => some c106
  | 107 => some c107
  | 108 => some c108
  | 121 => some c121
  | 122 => some c122
  | 123 => some c123
  | 124 => some c124
  | 125 => some c125
  | 126 => some c126
  | 127 => some c127
  | 146 => some c146
  | 147 => some c147
  | 148 => some c148
  | 149 => some c149
  | 150 => some c150
  | 151 => some c151
  | 180 => some c180
  | _ => none
def P : CProg := ⟨codeOf, prim⟩
@[simp] theorem fn4 : P.fn 4 = some c4 := rfl
@[simp] theorem fn5 : P.fn 5 = some c5 := rfl
@[simp] theorem fn6 : P.fn 6 = some c6 := rfl
@[simp] theorem fn7 : P.fn 7 = some c7 := rfl
@[simp] theorem fn8 : P.fn 8 = some c8 := rfl
@[simp] theorem fn21 : P.fn 21 = some c21 := rfl
@[simp] theorem fn22 : P.fn 22 = some c22 := rfl
@[simp] theorem fn23 : P.fn 23 = some c23 := rfl
@[simp] theorem fn24 : P.fn 24 = some c24 := rfl
@[simp] theorem fn25 : P.fn 25 = some c25 := rfl
@[simp] theorem fn39 : P.fn 39 = some c39 := rfl
@[simp] theorem fn43 : P.fn 43 = some c43 := rfl
@[simp] theorem fn70 : P.fn 70 = some c70 := rfl
@[simp] theorem fn71 : P.fn 71 = some c71 := rfl
@[simp] theorem fn72 : P.fn 72 = some c72 := rfl
@[simp] theorem fn79 : P.fn 79 = some c79 := rfl
@[simp] theorem fn80 : P.fn 80 = some c80 := rfl
@[simp] theorem fn81 : P.fn 81 = some c81 := rfl
@[simp] theorem fn82 : P.fn 82 = some c82 := rfl
@[simp] theorem fn83 : P.fn 83 = some c83 := rfl
@[simp] theorem fn85 : P.fn 85 = some c85 := rfl
@[simp] theorem fn96 : P.fn 96 = some c96 := rfl
@[simp] theorem fn97 : P.fn 97 = some c97 := rfl
@[simp] theorem fn98 : P.fn 98 = some c98 := rfl
@[simp] theorem fn99 : P.fn 99 = some c99 := rfl
@[simp] theorem fn100 : P.fn 100 = some c100 := rfl
@[simp] theorem fn101 : P.fn 101 = some c101 := rfl
@[simp] theorem fn102 : P.fn 102 = some c102 := rfl
@[simp] theorem fn103 : P.fn 103 = some c103 := rfl
@[simp] theorem fn104 : P.fn 104 = some c104 := rfl
@[simp] theorem fn105 : P.fn 105 = some c105 := rfl
@[simp] theorem fn106 : P.fn 106 = some c106 := rfl
@[simp] theorem fn107 : P.fn 107 = some c107 := rfl
@[simp] theorem fn108 : P.fn 108 = some c108 := rfl
@[simp] theorem fn121 : P.fn 121 = some c121 := rfl
@[simp] theorem fn122 : P.fn 122 = some c122 := rfl
@[simp] theorem fn123 : P.fn 123 = some c123 := rfl
@[simp] theorem fn124 : P.fn 124 = some c124 := rfl
@[simp] theorem fn125 : P.fn 125 = some c125 := rfl
@[simp] theorem fn126 : P.fn 126 = some c126 := rfl
@[simp] theorem fn127 : P.fn 127 = some c127 := rfl
@[simp] theorem fn146 : P.fn 146 = some c146 := rfl
@[simp] theorem fn147 : P.fn 147 = some c147 := rfl
@[simp] theorem fn148 : P.fn 148 = some c148 := rfl
@[simp] theorem fn149 : P.fn 149 = some c149 := rfl
@[simp] theorem fn150 : P.fn 150 = some c150 := rfl
@[simp] theorem fn151 : P.fn 151 = some c151 := rfl
@[simp] theorem fn180 : P.fn 180 = some c180 := rfl
end Go.Proofs.Ytgpedkkhndljiaa
