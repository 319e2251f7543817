/- The abstract code of the program's functions, printed by a program of ours out of Lean's own print of the translation. -/
import Derived.Test.YtojihfiloldkgaaAv
namespace Go.Proofs.Ytojihfiloldkgaa
open Go
-- spec.MateAlive
def c2 : CFn := ⟨16, [.tmp 2],
  (.seq (.region [
    ⟨some 1, .box (.tmp 0), none⟩,
    ⟨some 2, .mov (.const (.bool false)), none⟩] [1])
  (.seq (.region [
    ⟨some 3, .faddr (.tmp 1) 7, none⟩,
    ⟨some 4, .load (.tmp 3) 1 false .plain, none⟩,
    ⟨some 5, .bin .eql (.tmp 4) (.const (.int .i64 3)), none⟩,
    ⟨some 6, .mov (.tmp 5), none⟩,
    ⟨some 7, .faddr (.tmp 1) 7, some (6, false)⟩,
    ⟨some 8, .load (.tmp 7) 1 false .plain, some (6, false)⟩,
    ⟨some 9, .bin .eql (.tmp 8) (.const (.int .i64 4)), some (6, false)⟩,
    ⟨some 10, .pick (.tmp 6) (.const (.bool true)) (.tmp 9), none⟩,
    ⟨some 11, .mov (.tmp 10), none⟩,
    ⟨some 12, .faddr (.tmp 1) 7, some (11, false)⟩,
    ⟨some 13, .load (.tmp 12) 1 false .plain, some (11, false)⟩,
    ⟨some 14, .bin .eql (.tmp 13) (.const (.int .i64 6)), some (11, false)⟩,
    ⟨some 15, .pick (.tmp 11) (.const (.bool true)) (.tmp 14), none⟩,
    ⟨some 2, .mov (.tmp 15), none⟩] [2])
  .ret))⟩
-- laws.eqMateWantS
def c5b0 : CCode := (.seq (.seq (.region [
    ⟨some 11, .mov (.tmp 5), none⟩,
    ⟨some 12, .mov (.tmp 0), none⟩,
    ⟨some 13, .len false (.tmp 12), none⟩,
    ⟨some 14, .bin .lss (.tmp 11) (.tmp 13), none⟩] [0, 1, 5, 14])
  (.cond (.tmp 14)
    .skip
    (.exit 0)))
  (.seq (.block 1
    (.seq (.quiet [
      ⟨some 17, .mov (.tmp 0), none⟩,
      ⟨some 18, .mov (.tmp 5), none⟩,
      ⟨some 19, .iaddr 7 (.tmp 17) (.tmp 18), none⟩,
      ⟨some 20, .load (.tmp 19) 7 true .plain, none⟩,
      ⟨some 21, .mov (.tmp 1), none⟩,
      ⟨some 22, .mov (.tmp 5), none⟩,
      ⟨some 23, .iaddr 7 (.tmp 21) (.tmp 22), none⟩,
      ⟨some 24, .load (.tmp 23) 7 true .plain, none⟩,
      ⟨some 25, .call 83 [false, false] [.tmp 20, .tmp 24], none⟩,
      ⟨some 26, .un .not (.tmp 25), none⟩] [0, 1, 5, 26])
    (.cond (.tmp 26)
      (.seq (.region [
        ⟨some 4, .mov (.const (.bool false)), none⟩] [4])
      .ret)
      .skip)))
  (.region [
    ⟨some 15, .mov (.tmp 5), none⟩,
    ⟨some 16, .bin .add (.tmp 15) (.const (.int .i64 1)), none⟩,
    ⟨some 5, .mov (.tmp 16), none⟩] [0, 1, 5])))
def c5 : CFn := ⟨27, [.tmp 4],
  (.seq (.region [
    ⟨some 4, .mov (.const (.bool false)), none⟩] [0, 1])
  (.seq (.seq (.region [
    ⟨some 6, .mov (.tmp 0), none⟩,
    ⟨some 7, .len false (.tmp 6), none⟩,
    ⟨some 8, .mov (.tmp 1), none⟩,
    ⟨some 9, .len false (.tmp 8), none⟩,
    ⟨some 10, .bin .neq (.tmp 7) (.tmp 9), none⟩] [0, 1, 10])
  (.cond (.tmp 10)
    (.seq (.region [
      ⟨some 4, .mov (.const (.bool false)), none⟩] [4])
    .ret)
    .skip))
  (.seq (.seq (.region [
    ⟨some 5, .mov (.const (.int .i64 0)), none⟩] [0, 1, 5])
  (.block 0
    (.loop [0, 1, 5] c5b0)))
  (.seq (.region [
    ⟨some 4, .mov (.const (.bool true)), none⟩] [4])
  .ret))))⟩
-- spec.MateWantsOk
def c7b0 : CCode := (.seq (.seq (.region [
    ⟨some 38, .mov (.tmp 4), none⟩,
    ⟨some 39, .mov (.tmp 3), none⟩,
    ⟨some 40, .bin .lss (.tmp 38) (.tmp 39), none⟩] [0, 3, 4, 40])
  (.cond (.tmp 40)
    .skip
    (.exit 2)))
  (.seq (.block 3
    (.seq (.quiet [
      ⟨some 43, .mov (.tmp 0), none⟩,
      ⟨some 44, .mov (.tmp 3), none⟩,
      ⟨some 45, .iaddr 7 (.tmp 43) (.tmp 44), none⟩,
      ⟨some 46, .faddr (.tmp 45) 2, none⟩,
      ⟨some 47, .load (.tmp 46) 1 false .plain, none⟩,
      ⟨some 48, .bin .neq (.tmp 47) (.const (.str ⟨#[]⟩)), none⟩,
      ⟨some 49, .mov (.tmp 48), none⟩,
      ⟨some 50, .mov (.tmp 0), some (49, true)⟩,
      ⟨some 51, .mov (.tmp 4), some (49, true)⟩,
      ⟨some 52, .iaddr 7 (.tmp 50) (.tmp 51), some (49, true)⟩,
      ⟨some 53, .faddr (.tmp 52) 2, some (49, true)⟩,
      ⟨some 54, .load (.tmp 53) 1 false .plain, some (49, true)⟩,
      ⟨some 55, .mov (.tmp 0), some (49, true)⟩,
      ⟨some 56, .mov (.tmp 3), some (49, true)⟩,
      ⟨some 57, .iaddr 7 (.tmp 55) (.tmp 56), some (49, true)⟩,
      ⟨some 58, .faddr (.tmp 57) 2, some (49, true)⟩,
      ⟨some 59, .load (.tmp 58) 1 false .plain, some (49, true)⟩,
      ⟨some 60, .bin .eql (.tmp 54) (.tmp 59), some (49, true)⟩,
      ⟨some 61, .pick (.tmp 49) (.tmp 60) (.const (.bool false)), none⟩] [0, 3, 4, 61])
    (.cond (.tmp 61)
      (.seq (.region [
        ⟨some 2, .mov (.const (.bool false)), none⟩] [2])
      .ret)
      .skip)))
  (.region [
    ⟨some 41, .mov (.tmp 4), none⟩,
    ⟨some 42, .bin .add (.tmp 41) (.const (.int .i64 1)), none⟩,
    ⟨some 4, .mov (.tmp 42), none⟩] [0, 3, 4])))
def c7b1 : CCode := (.seq (.seq (.region [
    ⟨some 8, .mov (.tmp 3), none⟩,
    ⟨some 9, .mov (.tmp 0), none⟩,
    ⟨some 10, .len false (.tmp 9), none⟩,
    ⟨some 11, .bin .lss (.tmp 8) (.tmp 10), none⟩] [0, 3, 11])
  (.cond (.tmp 11)
    .skip
    (.exit 0)))
  (.seq (.block 1
    (.seq (.seq (.quiet [
      ⟨some 14, .mov (.tmp 0), none⟩,
      ⟨some 15, .mov (.tmp 3), none⟩,
      ⟨some 16, .iaddr 7 (.tmp 14) (.tmp 15), none⟩,
      ⟨some 17, .load (.tmp 16) 7 true .plain, none⟩,
      ⟨some 18, .call 81 [false] [.tmp 17], none⟩,
      ⟨some 19, .un .not (.tmp 18), none⟩,
      ⟨some 20, .mov (.tmp 19), none⟩,
      ⟨some 21, .mov (.tmp 3), some (20, false)⟩,
      ⟨some 22, .bin .gtr (.tmp 21) (.const (.int .i64 0)), some (20, false)⟩,
      ⟨some 23, .mov (.tmp 22), some (20, false)⟩,
      ⟨some 24, .mov (.tmp 0), some (23, true)⟩,
      ⟨some 25, .mov (.tmp 3), some (23, true)⟩,
      ⟨some 26, .bin .sub (.tmp 25) (.const (.int .i64 1)), some (23, true)⟩,
      ⟨some 27, .iaddr 7 (.tmp 24) (.tmp 26), some (23, true)⟩,
      ⟨some 28, .faddr (.tmp 27) 0, some (23, true)⟩,
      ⟨some 29, .load (.tmp 28) 1 false .plain, some (23, true)⟩,
      ⟨some 30, .mov (.tmp 0), some (23, true)⟩,
      ⟨some 31, .mov (.tmp 3), some (23, true)⟩,
      ⟨some 32, .iaddr 7 (.tmp 30) (.tmp 31), some (23, true)⟩,
      ⟨some 33, .faddr (.tmp 32) 0, some (23, true)⟩,
      ⟨some 34, .load (.tmp 33) 1 false .plain, some (23, true)⟩,
      ⟨some 35, .bin .geq (.tmp 29) (.tmp 34), some (23, true)⟩,
      ⟨some 36, .pick (.tmp 23) (.tmp 35) (.const (.bool false)), some (20, false)⟩,
      ⟨some 37, .pick (.tmp 20) (.const (.bool true)) (.tmp 36), none⟩] [0, 3, 37])
    (.cond (.tmp 37)
      (.seq (.region [
        ⟨some 2, .mov (.const (.bool false)), none⟩] [2])
      .ret)
      .skip))
    (.seq (.region [
      ⟨some 4, .mov (.const (.int .i64 0)), none⟩] [0, 3, 4])
    (.block 2
      (.loop [0, 3, 4] c7b0)))))
  (.region [
    ⟨some 12, .mov (.tmp 3), none⟩,
    ⟨some 13, .bin .add (.tmp 12) (.const (.int .i64 1)), none⟩,
    ⟨some 3, .mov (.tmp 13), none⟩] [0, 3])))
def c7 : CFn := ⟨62, [.tmp 2],
  (.seq (.region [
    ⟨some 2, .mov (.const (.bool false)), none⟩] [0])
  (.seq (.seq (.region [
    ⟨some 5, .mov (.tmp 0), none⟩,
    ⟨some 6, .len false (.tmp 5), none⟩,
    ⟨some 7, .bin .gtr (.tmp 6) (.const (.int .i64 10)), none⟩] [0, 7])
  (.cond (.tmp 7)
    (.seq (.region [
      ⟨some 2, .mov (.const (.bool false)), none⟩] [2])
    .ret)
    .skip))
  (.seq (.seq (.region [
    ⟨some 3, .mov (.const (.int .i64 0)), none⟩] [0, 3])
  (.block 0
    (.loop [0, 3] c7b1)))
  (.seq (.region [
    ⟨some 2, .mov (.const (.bool true)), none⟩] [2])
  .ret))))⟩
-- laws.eqMateRunS
def c10b0 : CCode := (.seq (.seq (.region [
    ⟨some 11, .mov (.tmp 5), none⟩,
    ⟨some 12, .mov (.tmp 0), none⟩,
    ⟨some 13, .len false (.tmp 12), none⟩,
    ⟨some 14, .bin .lss (.tmp 11) (.tmp 13), none⟩] [0, 1, 5, 14])
  (.cond (.tmp 14)
    .skip
    (.exit 0)))
  (.seq (.block 1
    (.seq (.quiet [
      ⟨some 17, .mov (.tmp 0), none⟩,
      ⟨some 18, .mov (.tmp 5), none⟩,
      ⟨some 19, .iaddr 11 (.tmp 17) (.tmp 18), none⟩,
      ⟨some 20, .load (.tmp 19) 11 true .plain, none⟩,
      ⟨some 21, .mov (.tmp 1), none⟩,
      ⟨some 22, .mov (.tmp 5), none⟩,
      ⟨some 23, .iaddr 11 (.tmp 21) (.tmp 22), none⟩,
      ⟨some 24, .load (.tmp 23) 11 true .plain, none⟩,
      ⟨some 25, .call 86 [false, false] [.tmp 20, .tmp 24], none⟩,
      ⟨some 26, .un .not (.tmp 25), none⟩] [0, 1, 5, 26])
    (.cond (.tmp 26)
      (.seq (.region [
        ⟨some 4, .mov (.const (.bool false)), none⟩] [4])
      .ret)
      .skip)))
  (.region [
    ⟨some 15, .mov (.tmp 5), none⟩,
    ⟨some 16, .bin .add (.tmp 15) (.const (.int .i64 1)), none⟩,
    ⟨some 5, .mov (.tmp 16), none⟩] [0, 1, 5])))
def c10 : CFn := ⟨27, [.tmp 4],
  (.seq (.region [
    ⟨some 4, .mov (.const (.bool false)), none⟩] [0, 1])
  (.seq (.seq (.region [
    ⟨some 6, .mov (.tmp 0), none⟩,
    ⟨some 7, .len false (.tmp 6), none⟩,
    ⟨some 8, .mov (.tmp 1), none⟩,
    ⟨some 9, .len false (.tmp 8), none⟩,
    ⟨some 10, .bin .neq (.tmp 7) (.tmp 9), none⟩] [0, 1, 10])
  (.cond (.tmp 10)
    (.seq (.region [
      ⟨some 4, .mov (.const (.bool false)), none⟩] [4])
    .ret)
    .skip))
  (.seq (.seq (.region [
    ⟨some 5, .mov (.const (.int .i64 0)), none⟩] [0, 1, 5])
  (.block 0
    (.loop [0, 1, 5] c10b0)))
  (.seq (.region [
    ⟨some 4, .mov (.const (.bool true)), none⟩] [4])
  .ret))))⟩
-- spec.MateRunsOk
def c12b0 : CCode := (.seq (.seq (.region [
    ⟨some 9, .mov (.tmp 5), none⟩,
    ⟨some 10, .mov (.tmp 0), none⟩,
    ⟨some 11, .len false (.tmp 10), none⟩,
    ⟨some 12, .bin .lss (.tmp 9) (.tmp 11), none⟩] [0, 1, 5, 12])
  (.cond (.tmp 12)
    .skip
    (.exit 0)))
  (.seq (.block 1
    (.seq (.quiet [
      ⟨some 15, .mov (.tmp 0), none⟩,
      ⟨some 16, .mov (.tmp 5), none⟩,
      ⟨some 17, .iaddr 11 (.tmp 15) (.tmp 16), none⟩,
      ⟨some 18, .load (.tmp 17) 11 true .plain, none⟩,
      ⟨some 19, .mov (.tmp 1), none⟩,
      ⟨some 20, .call 84 [false, false] [.tmp 18, .tmp 19], none⟩,
      ⟨some 21, .un .not (.tmp 20), none⟩,
      ⟨some 22, .mov (.tmp 21), none⟩,
      ⟨some 23, .mov (.tmp 5), some (22, false)⟩,
      ⟨some 24, .bin .gtr (.tmp 23) (.const (.int .i64 0)), some (22, false)⟩,
      ⟨some 25, .mov (.tmp 24), some (22, false)⟩,
      ⟨some 26, .mov (.tmp 0), some (25, true)⟩,
      ⟨some 27, .mov (.tmp 5), some (25, true)⟩,
      ⟨some 28, .bin .sub (.tmp 27) (.const (.int .i64 1)), some (25, true)⟩,
      ⟨some 29, .iaddr 11 (.tmp 26) (.tmp 28), some (25, true)⟩,
      ⟨some 30, .faddr (.tmp 29) 0, some (25, true)⟩,
      ⟨some 31, .faddr (.tmp 30) 0, some (25, true)⟩,
      ⟨some 32, .load (.tmp 31) 1 false .plain, some (25, true)⟩,
      ⟨some 33, .mov (.tmp 0), some (25, true)⟩,
      ⟨some 34, .mov (.tmp 5), some (25, true)⟩,
      ⟨some 35, .iaddr 11 (.tmp 33) (.tmp 34), some (25, true)⟩,
      ⟨some 36, .faddr (.tmp 35) 0, some (25, true)⟩,
      ⟨some 37, .faddr (.tmp 36) 0, some (25, true)⟩,
      ⟨some 38, .load (.tmp 37) 1 false .plain, some (25, true)⟩,
      ⟨some 39, .bin .geq (.tmp 32) (.tmp 38), some (25, true)⟩,
      ⟨some 40, .pick (.tmp 25) (.tmp 39) (.const (.bool false)), some (22, false)⟩,
      ⟨some 41, .pick (.tmp 22) (.const (.bool true)) (.tmp 40), none⟩] [0, 1, 5, 41])
    (.cond (.tmp 41)
      (.seq (.region [
        ⟨some 4, .mov (.const (.bool false)), none⟩] [4])
      .ret)
      .skip)))
  (.region [
    ⟨some 13, .mov (.tmp 5), none⟩,
    ⟨some 14, .bin .add (.tmp 13) (.const (.int .i64 1)), none⟩,
    ⟨some 5, .mov (.tmp 14), none⟩] [0, 1, 5])))
def c12 : CFn := ⟨42, [.tmp 4],
  (.seq (.region [
    ⟨some 4, .mov (.const (.bool false)), none⟩] [0, 1])
  (.seq (.seq (.region [
    ⟨some 6, .mov (.tmp 0), none⟩,
    ⟨some 7, .len false (.tmp 6), none⟩,
    ⟨some 8, .bin .gtr (.tmp 7) (.const (.int .i64 20)), none⟩] [0, 1, 8])
  (.cond (.tmp 8)
    (.seq (.region [
      ⟨some 4, .mov (.const (.bool false)), none⟩] [4])
    .ret)
    .skip))
  (.seq (.seq (.region [
    ⟨some 5, .mov (.const (.int .i64 0)), none⟩] [0, 1, 5])
  (.block 0
    (.loop [0, 1, 5] c12b0)))
  (.seq (.region [
    ⟨some 4, .mov (.const (.bool true)), none⟩] [4])
  .ret))))⟩
-- laws.heldMateRunS
def c17b0 : CCode := (.seq (.seq (.region [
    ⟨some 6, .mov (.tmp 5), none⟩,
    ⟨some 7, .mov (.tmp 0), none⟩,
    ⟨some 8, .len false (.tmp 7), none⟩,
    ⟨some 9, .bin .lss (.tmp 6) (.tmp 8), none⟩] [0, 1, 5, 9])
  (.cond (.tmp 9)
    .skip
    (.exit 0)))
  (.seq (.block 1
    (.seq (.seq (.quiet [
      ⟨some 12, .mov (.tmp 0), none⟩,
      ⟨some 13, .mov (.tmp 5), none⟩,
      ⟨some 14, .iaddr 11 (.tmp 12) (.tmp 13), none⟩,
      ⟨some 15, .faddr (.tmp 14) 0, none⟩,
      ⟨some 16, .faddr (.tmp 15) 0, none⟩,
      ⟨some 17, .load (.tmp 16) 1 false .plain, none⟩,
      ⟨some 18, .mov (.tmp 1), none⟩,
      ⟨some 19, .call 96 [false] [.tmp 18], none⟩,
      ⟨some 20, .bin .neq (.tmp 17) (.tmp 19), none⟩] [0, 1, 5, 20])
    (.cond (.tmp 20)
      (.seq (.region [
        ⟨some 4, .mov (.const (.int .i64 (-1))), none⟩] [4])
      .ret)
      .skip))
    (.seq (.region [
      ⟨some 21, .mov (.tmp 1), none⟩,
      ⟨some 22, .bin .add (.tmp 21) (.const (.int .i64 1)), none⟩,
      ⟨some 1, .mov (.tmp 22), none⟩] [0, 1, 5])
    (.seq (.seq (.region [
      ⟨some 23, .mov (.tmp 0), none⟩,
      ⟨some 24, .mov (.tmp 5), none⟩,
      ⟨some 25, .iaddr 11 (.tmp 23) (.tmp 24), none⟩,
      ⟨some 26, .faddr (.tmp 25) 0, none⟩,
      ⟨some 27, .faddr (.tmp 26) 1, none⟩,
      ⟨some 28, .load (.tmp 27) 1 false .plain, none⟩,
      ⟨some 29, .mov (.tmp 1), none⟩,
      ⟨some 30, .bin .neq (.tmp 28) (.tmp 29), none⟩] [0, 1, 5, 30])
    (.cond (.tmp 30)
      (.seq (.region [
        ⟨some 4, .mov (.const (.int .i64 (-1))), none⟩] [4])
      .ret)
      .skip))
    (.seq (.region [
      ⟨some 31, .mov (.tmp 1), none⟩,
      ⟨some 32, .bin .add (.tmp 31) (.const (.int .i64 1)), none⟩,
      ⟨some 1, .mov (.tmp 32), none⟩] [0, 1, 5])
    (.seq (.seq (.quiet [
      ⟨some 33, .mov (.tmp 0), none⟩,
      ⟨some 34, .mov (.tmp 5), none⟩,
      ⟨some 35, .iaddr 11 (.tmp 33) (.tmp 34), none⟩,
      ⟨some 36, .faddr (.tmp 35) 0, none⟩,
      ⟨some 37, .faddr (.tmp 36) 2, none⟩,
      ⟨some 38, .load (.tmp 37) 1 false .plain, none⟩,
      ⟨some 39, .mov (.tmp 1), none⟩,
      ⟨some 40, .call 96 [false] [.tmp 39], none⟩,
      ⟨some 41, .bin .neq (.tmp 38) (.tmp 40), none⟩] [0, 1, 5, 41])
    (.cond (.tmp 41)
      (.seq (.region [
        ⟨some 4, .mov (.const (.int .i64 (-1))), none⟩] [4])
      .ret)
      .skip))
    (.seq (.region [
      ⟨some 42, .mov (.tmp 1), none⟩,
      ⟨some 43, .bin .add (.tmp 42) (.const (.int .i64 1)), none⟩,
      ⟨some 1, .mov (.tmp 43), none⟩] [0, 1, 5])
    (.seq (.seq (.region [
      ⟨some 44, .mov (.tmp 0), none⟩,
      ⟨some 45, .mov (.tmp 5), none⟩,
      ⟨some 46, .iaddr 11 (.tmp 44) (.tmp 45), none⟩,
      ⟨some 47, .faddr (.tmp 46) 0, none⟩,
      ⟨some 48, .faddr (.tmp 47) 3, none⟩,
      ⟨some 49, .load (.tmp 48) 1 false .plain, none⟩,
      ⟨some 50, .mov (.tmp 1), none⟩,
      ⟨some 51, .bin .neq (.tmp 49) (.tmp 50), none⟩] [0, 1, 5, 51])
    (.cond (.tmp 51)
      (.seq (.region [
        ⟨some 4, .mov (.const (.int .i64 (-1))), none⟩] [4])
      .ret)
      .skip))
    (.seq (.region [
      ⟨some 52, .mov (.tmp 1), none⟩,
      ⟨some 53, .bin .add (.tmp 52) (.const (.int .i64 1)), none⟩,
      ⟨some 1, .mov (.tmp 53), none⟩] [0, 1, 5])
    (.seq (.seq (.region [
      ⟨some 54, .mov (.tmp 0), none⟩,
      ⟨some 55, .mov (.tmp 5), none⟩,
      ⟨some 56, .iaddr 11 (.tmp 54) (.tmp 55), none⟩,
      ⟨some 57, .faddr (.tmp 56) 0, none⟩,
      ⟨some 58, .faddr (.tmp 57) 4, none⟩,
      ⟨some 59, .load (.tmp 58) 1 false .plain, none⟩,
      ⟨some 60, .mov (.tmp 1), none⟩,
      ⟨some 61, .bin .neq (.tmp 59) (.tmp 60), none⟩] [0, 1, 5, 61])
    (.cond (.tmp 61)
      (.seq (.region [
        ⟨some 4, .mov (.const (.int .i64 (-1))), none⟩] [4])
      .ret)
      .skip))
    (.seq (.region [
      ⟨some 62, .mov (.tmp 1), none⟩,
      ⟨some 63, .bin .add (.tmp 62) (.const (.int .i64 1)), none⟩,
      ⟨some 1, .mov (.tmp 63), none⟩] [0, 1, 5])
    (.seq (.seq (.region [
      ⟨some 64, .mov (.tmp 0), none⟩,
      ⟨some 65, .mov (.tmp 5), none⟩,
      ⟨some 66, .iaddr 11 (.tmp 64) (.tmp 65), none⟩,
      ⟨some 67, .faddr (.tmp 66) 0, none⟩,
      ⟨some 68, .faddr (.tmp 67) 5, none⟩,
      ⟨some 69, .load (.tmp 68) 1 false .plain, none⟩,
      ⟨some 70, .mov (.tmp 1), none⟩,
      ⟨some 71, .bin .neq (.tmp 69) (.tmp 70), none⟩] [0, 1, 5, 71])
    (.cond (.tmp 71)
      (.seq (.region [
        ⟨some 4, .mov (.const (.int .i64 (-1))), none⟩] [4])
      .ret)
      .skip))
    (.seq (.region [
      ⟨some 72, .mov (.tmp 1), none⟩,
      ⟨some 73, .bin .add (.tmp 72) (.const (.int .i64 1)), none⟩,
      ⟨some 1, .mov (.tmp 73), none⟩] [0, 1, 5])
    (.seq (.seq (.region [
      ⟨some 74, .mov (.tmp 0), none⟩,
      ⟨some 75, .mov (.tmp 5), none⟩,
      ⟨some 76, .iaddr 11 (.tmp 74) (.tmp 75), none⟩,
      ⟨some 77, .faddr (.tmp 76) 0, none⟩,
      ⟨some 78, .faddr (.tmp 77) 6, none⟩,
      ⟨some 79, .load (.tmp 78) 1 false .plain, none⟩,
      ⟨some 80, .mov (.tmp 1), none⟩,
      ⟨some 81, .bin .neq (.tmp 79) (.tmp 80), none⟩] [0, 1, 5, 81])
    (.cond (.tmp 81)
      (.seq (.region [
        ⟨some 4, .mov (.const (.int .i64 (-1))), none⟩] [4])
      .ret)
      .skip))
    (.seq (.region [
      ⟨some 82, .mov (.tmp 1), none⟩,
      ⟨some 83, .bin .add (.tmp 82) (.const (.int .i64 1)), none⟩,
      ⟨some 1, .mov (.tmp 83), none⟩] [0, 1, 5])
    (.seq (.seq (.region [
      ⟨some 84, .mov (.tmp 0), none⟩,
      ⟨some 85, .mov (.tmp 5), none⟩,
      ⟨some 86, .iaddr 11 (.tmp 84) (.tmp 85), none⟩,
      ⟨some 87, .faddr (.tmp 86) 7, none⟩,
      ⟨some 88, .load (.tmp 87) 1 false .plain, none⟩,
      ⟨some 89, .mov (.tmp 1), none⟩,
      ⟨some 90, .bin .neq (.tmp 88) (.tmp 89), none⟩] [0, 1, 5, 90])
    (.cond (.tmp 90)
      (.seq (.region [
        ⟨some 4, .mov (.const (.int .i64 (-1))), none⟩] [4])
      .ret)
      .skip))
    (.seq (.region [
      ⟨some 91, .mov (.tmp 1), none⟩,
      ⟨some 92, .bin .add (.tmp 91) (.const (.int .i64 1)), none⟩,
      ⟨some 1, .mov (.tmp 92), none⟩] [0, 1, 5])
    (.seq (.seq (.region [
      ⟨some 93, .mov (.tmp 0), none⟩,
      ⟨some 94, .mov (.tmp 5), none⟩,
      ⟨some 95, .iaddr 11 (.tmp 93) (.tmp 94), none⟩,
      ⟨some 96, .faddr (.tmp 95) 8, none⟩,
      ⟨some 97, .load (.tmp 96) 1 false .plain, none⟩,
      ⟨some 98, .mov (.tmp 1), none⟩,
      ⟨some 99, .bin .neq (.tmp 97) (.tmp 98), none⟩] [0, 1, 5, 99])
    (.cond (.tmp 99)
      (.seq (.region [
        ⟨some 4, .mov (.const (.int .i64 (-1))), none⟩] [4])
      .ret)
      .skip))
    (.seq (.region [
      ⟨some 100, .mov (.tmp 1), none⟩,
      ⟨some 101, .bin .add (.tmp 100) (.const (.int .i64 1)), none⟩,
      ⟨some 1, .mov (.tmp 101), none⟩] [0, 1, 5])
    (.seq (.seq (.region [
      ⟨some 102, .mov (.tmp 0), none⟩,
      ⟨some 103, .mov (.tmp 5), none⟩,
      ⟨some 104, .iaddr 11 (.tmp 102) (.tmp 103), none⟩,
      ⟨some 105, .faddr (.tmp 104) 9, none⟩,
      ⟨some 106, .load (.tmp 105) 1 false .plain, none⟩,
      ⟨some 107, .mov (.tmp 1), none⟩,
      ⟨some 108, .bin .neq (.tmp 106) (.tmp 107), none⟩] [0, 1, 5, 108])
    (.cond (.tmp 108)
      (.seq (.region [
        ⟨some 4, .mov (.const (.int .i64 (-1))), none⟩] [4])
      .ret)
      .skip))
    (.seq (.region [
      ⟨some 109, .mov (.tmp 1), none⟩,
      ⟨some 110, .bin .add (.tmp 109) (.const (.int .i64 1)), none⟩,
      ⟨some 1, .mov (.tmp 110), none⟩] [0, 1, 5])
    (.seq (.seq (.region [
      ⟨some 111, .mov (.tmp 0), none⟩,
      ⟨some 112, .mov (.tmp 5), none⟩,
      ⟨some 113, .iaddr 11 (.tmp 111) (.tmp 112), none⟩,
      ⟨some 114, .faddr (.tmp 113) 10, none⟩,
      ⟨some 115, .load (.tmp 114) 1 false .plain, none⟩,
      ⟨some 116, .mov (.tmp 1), none⟩,
      ⟨some 117, .bin .neq (.tmp 115) (.tmp 116), none⟩] [0, 1, 5, 117])
    (.cond (.tmp 117)
      (.seq (.region [
        ⟨some 4, .mov (.const (.int .i64 (-1))), none⟩] [4])
      .ret)
      .skip))
    (.region [
      ⟨some 118, .mov (.tmp 1), none⟩,
      ⟨some 119, .bin .add (.tmp 118) (.const (.int .i64 1)), none⟩,
      ⟨some 1, .mov (.tmp 119), none⟩] [0, 1, 5])))))))))))))))))))))))
  (.region [
    ⟨some 10, .mov (.tmp 5), none⟩,
    ⟨some 11, .bin .add (.tmp 10) (.const (.int .i64 1)), none⟩,
    ⟨some 5, .mov (.tmp 11), none⟩] [0, 1, 5])))
def c17 : CFn := ⟨121, [.tmp 4],
  (.seq (.region [
    ⟨some 4, .mov (.const (.int .i64 0)), none⟩] [0, 1])
  (.seq (.seq (.region [
    ⟨some 5, .mov (.const (.int .i64 0)), none⟩] [0, 1, 5])
  (.block 0
    (.loop [0, 1, 5] c17b0)))
  (.seq (.region [
    ⟨some 120, .mov (.tmp 1), none⟩,
    ⟨some 4, .mov (.tmp 120), none⟩] [4])
  .ret)))⟩
-- laws.markMateRunS
def c19b0 : CCode := (.seq (.seq (.region [
    ⟨some 6, .mov (.tmp 5), none⟩,
    ⟨some 7, .mov (.tmp 0), none⟩,
    ⟨some 8, .len false (.tmp 7), none⟩,
    ⟨some 9, .bin .lss (.tmp 6) (.tmp 8), none⟩] [0, 1, 5, 9])
  (.cond (.tmp 9)
    .skip
    (.exit 0)))
  (.seq (.block 1
    (.seq (.region [
      ⟨some 12, .mov (.tmp 0), none⟩,
      ⟨some 13, .mov (.tmp 5), none⟩,
      ⟨some 14, .mov (.tmp 1), none⟩,
      ⟨some 15, .call 96 [false] [.tmp 14], none⟩,
      ⟨some 16, .iaddr 11 (.tmp 12) (.tmp 13), none⟩,
      ⟨some 17, .faddr (.tmp 16) 0, none⟩,
      ⟨some 18, .faddr (.tmp 17) 0, none⟩,
      ⟨none, .store (.tmp 18) (.tmp 15) 1, none⟩] [0, 1, 5])
    (.seq (.region [
      ⟨some 19, .mov (.tmp 1), none⟩,
      ⟨some 20, .bin .add (.tmp 19) (.const (.int .i64 1)), none⟩,
      ⟨some 1, .mov (.tmp 20), none⟩] [0, 1, 5])
    (.seq (.region [
      ⟨some 21, .mov (.tmp 0), none⟩,
      ⟨some 22, .mov (.tmp 5), none⟩,
      ⟨some 23, .mov (.tmp 1), none⟩,
      ⟨some 24, .iaddr 11 (.tmp 21) (.tmp 22), none⟩,
      ⟨some 25, .faddr (.tmp 24) 0, none⟩,
      ⟨some 26, .faddr (.tmp 25) 1, none⟩,
      ⟨none, .store (.tmp 26) (.tmp 23) 1, none⟩] [0, 1, 5])
    (.seq (.region [
      ⟨some 27, .mov (.tmp 1), none⟩,
      ⟨some 28, .bin .add (.tmp 27) (.const (.int .i64 1)), none⟩,
      ⟨some 1, .mov (.tmp 28), none⟩] [0, 1, 5])
    (.seq (.region [
      ⟨some 29, .mov (.tmp 0), none⟩,
      ⟨some 30, .mov (.tmp 5), none⟩,
      ⟨some 31, .mov (.tmp 1), none⟩,
      ⟨some 32, .call 96 [false] [.tmp 31], none⟩,
      ⟨some 33, .iaddr 11 (.tmp 29) (.tmp 30), none⟩,
      ⟨some 34, .faddr (.tmp 33) 0, none⟩,
      ⟨some 35, .faddr (.tmp 34) 2, none⟩,
      ⟨none, .store (.tmp 35) (.tmp 32) 1, none⟩] [0, 1, 5])
    (.seq (.region [
      ⟨some 36, .mov (.tmp 1), none⟩,
      ⟨some 37, .bin .add (.tmp 36) (.const (.int .i64 1)), none⟩,
      ⟨some 1, .mov (.tmp 37), none⟩] [0, 1, 5])
    (.seq (.region [
      ⟨some 38, .mov (.tmp 0), none⟩,
      ⟨some 39, .mov (.tmp 5), none⟩,
      ⟨some 40, .mov (.tmp 1), none⟩,
      ⟨some 41, .iaddr 11 (.tmp 38) (.tmp 39), none⟩,
      ⟨some 42, .faddr (.tmp 41) 0, none⟩,
      ⟨some 43, .faddr (.tmp 42) 3, none⟩,
      ⟨none, .store (.tmp 43) (.tmp 40) 1, none⟩] [0, 1, 5])
    (.seq (.region [
      ⟨some 44, .mov (.tmp 1), none⟩,
      ⟨some 45, .bin .add (.tmp 44) (.const (.int .i64 1)), none⟩,
      ⟨some 1, .mov (.tmp 45), none⟩] [0, 1, 5])
    (.seq (.region [
      ⟨some 46, .mov (.tmp 0), none⟩,
      ⟨some 47, .mov (.tmp 5), none⟩,
      ⟨some 48, .mov (.tmp 1), none⟩,
      ⟨some 49, .iaddr 11 (.tmp 46) (.tmp 47), none⟩,
      ⟨some 50, .faddr (.tmp 49) 0, none⟩,
      ⟨some 51, .faddr (.tmp 50) 4, none⟩,
      ⟨none, .store (.tmp 51) (.tmp 48) 1, none⟩] [0, 1, 5])
    (.seq (.region [
      ⟨some 52, .mov (.tmp 1), none⟩,
      ⟨some 53, .bin .add (.tmp 52) (.const (.int .i64 1)), none⟩,
      ⟨some 1, .mov (.tmp 53), none⟩] [0, 1, 5])
    (.seq (.region [
      ⟨some 54, .mov (.tmp 0), none⟩,
      ⟨some 55, .mov (.tmp 5), none⟩,
      ⟨some 56, .mov (.tmp 1), none⟩,
      ⟨some 57, .iaddr 11 (.tmp 54) (.tmp 55), none⟩,
      ⟨some 58, .faddr (.tmp 57) 0, none⟩,
      ⟨some 59, .faddr (.tmp 58) 5, none⟩,
      ⟨none, .store (.tmp 59) (.tmp 56) 1, none⟩] [0, 1, 5])
    (.seq (.region [
      ⟨some 60, .mov (.tmp 1), none⟩,
      ⟨some 61, .bin .add (.tmp 60) (.const (.int .i64 1)), none⟩,
      ⟨some 1, .mov (.tmp 61), none⟩] [0, 1, 5])
    (.seq (.region [
      ⟨some 62, .mov (.tmp 0), none⟩,
      ⟨some 63, .mov (.tmp 5), none⟩,
      ⟨some 64, .mov (.tmp 1), none⟩,
      ⟨some 65, .iaddr 11 (.tmp 62) (.tmp 63), none⟩,
      ⟨some 66, .faddr (.tmp 65) 0, none⟩,
      ⟨some 67, .faddr (.tmp 66) 6, none⟩,
      ⟨none, .store (.tmp 67) (.tmp 64) 1, none⟩] [0, 1, 5])
    (.seq (.region [
      ⟨some 68, .mov (.tmp 1), none⟩,
      ⟨some 69, .bin .add (.tmp 68) (.const (.int .i64 1)), none⟩,
      ⟨some 1, .mov (.tmp 69), none⟩] [0, 1, 5])
    (.seq (.region [
      ⟨some 70, .mov (.tmp 0), none⟩,
      ⟨some 71, .mov (.tmp 5), none⟩,
      ⟨some 72, .mov (.tmp 1), none⟩,
      ⟨some 73, .iaddr 11 (.tmp 70) (.tmp 71), none⟩,
      ⟨some 74, .faddr (.tmp 73) 7, none⟩,
      ⟨none, .store (.tmp 74) (.tmp 72) 1, none⟩] [0, 1, 5])
    (.seq (.region [
      ⟨some 75, .mov (.tmp 1), none⟩,
      ⟨some 76, .bin .add (.tmp 75) (.const (.int .i64 1)), none⟩,
      ⟨some 1, .mov (.tmp 76), none⟩] [0, 1, 5])
    (.seq (.region [
      ⟨some 77, .mov (.tmp 0), none⟩,
      ⟨some 78, .mov (.tmp 5), none⟩,
      ⟨some 79, .mov (.tmp 1), none⟩,
      ⟨some 80, .iaddr 11 (.tmp 77) (.tmp 78), none⟩,
      ⟨some 81, .faddr (.tmp 80) 8, none⟩,
      ⟨none, .store (.tmp 81) (.tmp 79) 1, none⟩] [0, 1, 5])
    (.seq (.region [
      ⟨some 82, .mov (.tmp 1), none⟩,
      ⟨some 83, .bin .add (.tmp 82) (.const (.int .i64 1)), none⟩,
      ⟨some 1, .mov (.tmp 83), none⟩] [0, 1, 5])
    (.seq (.region [
      ⟨some 84, .mov (.tmp 0), none⟩,
      ⟨some 85, .mov (.tmp 5), none⟩,
      ⟨some 86, .mov (.tmp 1), none⟩,
      ⟨some 87, .iaddr 11 (.tmp 84) (.tmp 85), none⟩,
      ⟨some 88, .faddr (.tmp 87) 9, none⟩,
      ⟨none, .store (.tmp 88) (.tmp 86) 1, none⟩] [0, 1, 5])
    (.seq (.region [
      ⟨some 89, .mov (.tmp 1), none⟩,
      ⟨some 90, .bin .add (.tmp 89) (.const (.int .i64 1)), none⟩,
      ⟨some 1, .mov (.tmp 90), none⟩] [0, 1, 5])
    (.seq (.region [
      ⟨some 91, .mov (.tmp 0), none⟩,
      ⟨some 92, .mov (.tmp 5), none⟩,
      ⟨some 93, .mov (.tmp 1), none⟩,
      ⟨some 94, .iaddr 11 (.tmp 91) (.tmp 92), none⟩,
      ⟨some 95, .faddr (.tmp 94) 10, none⟩,
      ⟨none, .store (.tmp 95) (.tmp 93) 1, none⟩] [0, 1, 5])
    (.region [
      ⟨some 96, .mov (.tmp 1), none⟩,
      ⟨some 97, .bin .add (.tmp 96) (.const (.int .i64 1)), none⟩,
      ⟨some 1, .mov (.tmp 97), none⟩] [0, 1, 5])))))))))))))))))))))))
  (.region [
    ⟨some 10, .mov (.tmp 5), none⟩,
    ⟨some 11, .bin .add (.tmp 10) (.const (.int .i64 1)), none⟩,
    ⟨some 5, .mov (.tmp 11), none⟩] [0, 1, 5])))
def c19 : CFn := ⟨99, [.tmp 4],
  (.seq (.region [
    ⟨some 4, .mov (.const (.int .i64 0)), none⟩] [0, 1])
  (.seq (.seq (.region [
    ⟨some 5, .mov (.const (.int .i64 0)), none⟩] [0, 1, 5])
  (.block 0
    (.loop [0, 1, 5] c19b0)))
  (.seq (.region [
    ⟨some 98, .mov (.tmp 1), none⟩,
    ⟨some 4, .mov (.tmp 98), none⟩] [4])
  .ret)))⟩
-- laws.eqMateLand
def c22 : CFn := ⟨22, [.tmp 4],
  (.seq (.region [
    ⟨some 2, .box (.tmp 0), none⟩,
    ⟨some 3, .box (.tmp 1), none⟩,
    ⟨some 4, .mov (.const (.bool false)), none⟩] [2, 3])
  (.seq (.seq (.region [
    ⟨some 5, .faddr (.tmp 2) 0, none⟩,
    ⟨some 6, .load (.tmp 5) 1 false .plain, none⟩,
    ⟨some 7, .faddr (.tmp 3) 0, none⟩,
    ⟨some 8, .load (.tmp 7) 1 false .plain, none⟩,
    ⟨some 9, .bin .neq (.tmp 6) (.tmp 8), none⟩] [2, 3, 9])
  (.cond (.tmp 9)
    (.seq (.region [
      ⟨some 4, .mov (.const (.bool false)), none⟩] [4])
    .ret)
    .skip))
  (.seq (.seq (.region [
    ⟨some 10, .faddr (.tmp 2) 1, none⟩,
    ⟨some 11, .load (.tmp 10) 1 false .plain, none⟩,
    ⟨some 12, .faddr (.tmp 3) 1, none⟩,
    ⟨some 13, .load (.tmp 12) 1 false .plain, none⟩,
    ⟨some 14, .call 108 [false, false] [.tmp 11, .tmp 13], none⟩,
    ⟨some 15, .un .not (.tmp 14), none⟩] [2, 3, 15])
  (.cond (.tmp 15)
    (.seq (.region [
      ⟨some 4, .mov (.const (.bool false)), none⟩] [4])
    .ret)
    .skip))
  (.seq (.seq (.region [
    ⟨some 16, .faddr (.tmp 2) 2, none⟩,
    ⟨some 17, .load (.tmp 16) 1 false .plain, none⟩,
    ⟨some 18, .faddr (.tmp 3) 2, none⟩,
    ⟨some 19, .load (.tmp 18) 1 false .plain, none⟩,
    ⟨some 20, .call 107 [false, false] [.tmp 17, .tmp 19], none⟩,
    ⟨some 21, .un .not (.tmp 20), none⟩] [21])
  (.cond (.tmp 21)
    (.seq (.region [
      ⟨some 4, .mov (.const (.bool false)), none⟩] [4])
    .ret)
    .skip))
  (.seq (.region [
    ⟨some 4, .mov (.const (.bool true)), none⟩] [4])
  .ret)))))⟩
-- spec.MateLandOk
def c24b0 : CCode := (.seq (.seq (.region [
    ⟨some 21, .mov (.tmp 3), none⟩,
    ⟨some 22, .faddr (.tmp 1) 1, none⟩,
    ⟨some 23, .load (.tmp 22) 1 false .plain, none⟩,
    ⟨some 24, .len false (.tmp 23), none⟩,
    ⟨some 25, .bin .lss (.tmp 21) (.tmp 24), none⟩] [1, 3, 25])
  (.cond (.tmp 25)
    .skip
    (.exit 0)))
  (.seq (.block 1
    (.seq (.region [
      ⟨some 28, .faddr (.tmp 1) 1, none⟩,
      ⟨some 29, .load (.tmp 28) 1 false .plain, none⟩,
      ⟨some 30, .mov (.tmp 3), none⟩,
      ⟨some 31, .iaddr 5 (.tmp 29) (.tmp 30), none⟩,
      ⟨some 32, .load (.tmp 31) 5 true .plain, none⟩,
      ⟨some 4, .alloc [.str ⟨#[]⟩, .str ⟨#[]⟩, .str ⟨#[]⟩, .int .i64 0, .int .i64 0], none⟩,
      ⟨none, .store (.tmp 4) (.tmp 32) 5, none⟩] [1, 3, 4])
    (.seq (.quiet [
      ⟨some 33, .faddr (.tmp 4) 0, none⟩,
      ⟨some 34, .load (.tmp 33) 1 false .plain, none⟩,
      ⟨some 35, .call 100 [false] [.tmp 34], none⟩,
      ⟨some 36, .un .not (.tmp 35), none⟩,
      ⟨some 37, .mov (.tmp 36), none⟩,
      ⟨some 38, .faddr (.tmp 4) 1, some (37, false)⟩,
      ⟨some 39, .load (.tmp 38) 1 false .plain, some (37, false)⟩,
      ⟨some 40, .call 101 [false] [.tmp 39], some (37, false)⟩,
      ⟨some 41, .un .not (.tmp 40), some (37, false)⟩,
      ⟨some 42, .pick (.tmp 37) (.const (.bool true)) (.tmp 41), none⟩,
      ⟨some 43, .mov (.tmp 42), none⟩,
      ⟨some 44, .faddr (.tmp 4) 2, some (43, false)⟩,
      ⟨some 45, .load (.tmp 44) 1 false .plain, some (43, false)⟩,
      ⟨some 46, .call 101 [false] [.tmp 45], some (43, false)⟩,
      ⟨some 47, .un .not (.tmp 46), some (43, false)⟩,
      ⟨some 48, .pick (.tmp 43) (.const (.bool true)) (.tmp 47), none⟩,
      ⟨some 49, .mov (.tmp 48), none⟩,
      ⟨some 50, .faddr (.tmp 4) 3, some (49, false)⟩,
      ⟨some 51, .load (.tmp 50) 1 false .plain, some (49, false)⟩,
      ⟨some 52, .call 102 [false, false, false] [.tmp 51, .const (.int .i64 0), .const (.int .i64 1000000)], some (49, false)⟩,
      ⟨some 53, .un .not (.tmp 52), some (49, false)⟩,
      ⟨some 54, .pick (.tmp 49) (.const (.bool true)) (.tmp 53), none⟩,
      ⟨some 55, .mov (.tmp 54), none⟩,
      ⟨some 56, .faddr (.tmp 4) 4, some (55, false)⟩,
      ⟨some 57, .load (.tmp 56) 1 false .plain, some (55, false)⟩,
      ⟨some 58, .faddr (.tmp 1) 0, some (55, false)⟩,
      ⟨some 59, .load (.tmp 58) 1 false .plain, some (55, false)⟩,
      ⟨some 60, .bin .add (.tmp 59) (.const (.int .i64 32)), some (55, false)⟩,
      ⟨some 61, .call 102 [false, false, false] [.tmp 57, .const (.int .i64 0), .tmp 60], some (55, false)⟩,
      ⟨some 62, .un .not (.tmp 61), some (55, false)⟩,
      ⟨some 63, .pick (.tmp 55) (.const (.bool true)) (.tmp 62), none⟩,
      ⟨some 64, .mov (.tmp 63), none⟩,
      ⟨some 65, .mov (.tmp 3), some (64, false)⟩,
      ⟨some 66, .bin .gtr (.tmp 65) (.const (.int .i64 0)), some (64, false)⟩,
      ⟨some 67, .mov (.tmp 66), some (64, false)⟩,
      ⟨some 68, .faddr (.tmp 1) 1, some (67, true)⟩,
      ⟨some 69, .load (.tmp 68) 1 false .plain, some (67, true)⟩,
      ⟨some 70, .mov (.tmp 3), some (67, true)⟩,
      ⟨some 71, .bin .sub (.tmp 70) (.const (.int .i64 1)), some (67, true)⟩,
      ⟨some 72, .iaddr 5 (.tmp 69) (.tmp 71), some (67, true)⟩,
      ⟨some 73, .faddr (.tmp 72) 0, some (67, true)⟩,
      ⟨some 74, .load (.tmp 73) 1 false .plain, some (67, true)⟩,
      ⟨some 75, .faddr (.tmp 4) 0, some (67, true)⟩,
      ⟨some 76, .load (.tmp 75) 1 false .plain, some (67, true)⟩,
      ⟨some 77, .bin .geq (.tmp 74) (.tmp 76), some (67, true)⟩,
      ⟨some 78, .pick (.tmp 67) (.tmp 77) (.const (.bool false)), some (64, false)⟩,
      ⟨some 79, .pick (.tmp 64) (.const (.bool true)) (.tmp 78), none⟩] [1, 3, 79])
    (.cond (.tmp 79)
      (.seq (.region [
        ⟨some 2, .mov (.const (.bool false)), none⟩] [2])
      .ret)
      .skip))))
  (.region [
    ⟨some 26, .mov (.tmp 3), none⟩,
    ⟨some 27, .bin .add (.tmp 26) (.const (.int .i64 1)), none⟩,
    ⟨some 3, .mov (.tmp 27), none⟩] [1, 3])))
def c24 : CFn := ⟨83, [.tmp 2],
  (.seq (.region [
    ⟨some 1, .box (.tmp 0), none⟩,
    ⟨some 2, .mov (.const (.bool false)), none⟩] [1])
  (.seq (.seq (.region [
    ⟨some 5, .faddr (.tmp 1) 0, none⟩,
    ⟨some 6, .load (.tmp 5) 1 false .plain, none⟩,
    ⟨some 7, .call 102 [false, false, false] [.tmp 6, .const (.int .i64 0), .const (.int .i64 2000000)], none⟩,
    ⟨some 8, .un .not (.tmp 7), none⟩,
    ⟨some 9, .mov (.tmp 8), none⟩,
    ⟨some 10, .faddr (.tmp 1) 0, some (9, false)⟩,
    ⟨some 11, .load (.tmp 10) 1 false .plain, some (9, false)⟩,
    ⟨some 12, .bin .rem (.tmp 11) (.const (.int .i64 2)), some (9, false)⟩,
    ⟨some 13, .bin .neq (.tmp 12) (.const (.int .i64 0)), some (9, false)⟩,
    ⟨some 14, .pick (.tmp 9) (.const (.bool true)) (.tmp 13), none⟩,
    ⟨some 15, .mov (.tmp 14), none⟩,
    ⟨some 16, .faddr (.tmp 1) 1, some (15, false)⟩,
    ⟨some 17, .load (.tmp 16) 1 false .plain, some (15, false)⟩,
    ⟨some 18, .len false (.tmp 17), some (15, false)⟩,
    ⟨some 19, .bin .gtr (.tmp 18) (.const (.int .i64 40)), some (15, false)⟩,
    ⟨some 20, .pick (.tmp 15) (.const (.bool true)) (.tmp 19), none⟩] [1, 20])
  (.cond (.tmp 20)
    (.seq (.region [
      ⟨some 2, .mov (.const (.bool false)), none⟩] [2])
    .ret)
    .skip))
  (.seq (.seq (.region [
    ⟨some 3, .mov (.const (.int .i64 0)), none⟩] [1, 3])
  (.block 0
    (.loop [1, 3] c24b0)))
  (.seq (.region [
    ⟨some 80, .faddr (.tmp 1) 2, none⟩,
    ⟨some 81, .load (.tmp 80) 1 false .plain, none⟩,
    ⟨some 82, .call 99 [false] [.tmp 81], none⟩,
    ⟨some 2, .mov (.tmp 82), none⟩] [2])
  .ret))))⟩
-- laws.eqMate
def c27 : CFn := ⟨54, [.tmp 4],
  (.seq (.region [
    ⟨some 2, .box (.tmp 0), none⟩,
    ⟨some 3, .box (.tmp 1), none⟩,
    ⟨some 4, .mov (.const (.bool false)), none⟩] [2, 3])
  (.seq (.seq (.region [
    ⟨some 5, .faddr (.tmp 2) 0, none⟩,
    ⟨some 6, .load (.tmp 5) 1 false .plain, none⟩,
    ⟨some 7, .faddr (.tmp 3) 0, none⟩,
    ⟨some 8, .load (.tmp 7) 1 false .plain, none⟩,
    ⟨some 9, .bin .neq (.tmp 6) (.tmp 8), none⟩] [2, 3, 9])
  (.cond (.tmp 9)
    (.seq (.region [
      ⟨some 4, .mov (.const (.bool false)), none⟩] [4])
    .ret)
    .skip))
  (.seq (.seq (.region [
    ⟨some 10, .faddr (.tmp 2) 1, none⟩,
    ⟨some 11, .load (.tmp 10) 1 false .plain, none⟩,
    ⟨some 12, .faddr (.tmp 3) 1, none⟩,
    ⟨some 13, .load (.tmp 12) 1 false .plain, none⟩,
    ⟨some 14, .beq true (.tmp 11) (.tmp 13), none⟩] [2, 3, 14])
  (.cond (.tmp 14)
    (.seq (.region [
      ⟨some 4, .mov (.const (.bool false)), none⟩] [4])
    .ret)
    .skip))
  (.seq (.seq (.region [
    ⟨some 15, .faddr (.tmp 2) 2, none⟩,
    ⟨some 16, .load (.tmp 15) 1 false .plain, none⟩,
    ⟨some 17, .faddr (.tmp 3) 2, none⟩,
    ⟨some 18, .load (.tmp 17) 1 false .plain, none⟩,
    ⟨some 19, .bin .neq (.tmp 16) (.tmp 18), none⟩] [2, 3, 19])
  (.cond (.tmp 19)
    (.seq (.region [
      ⟨some 4, .mov (.const (.bool false)), none⟩] [4])
    .ret)
    .skip))
  (.seq (.seq (.region [
    ⟨some 20, .faddr (.tmp 2) 3, none⟩,
    ⟨some 21, .load (.tmp 20) 1 false .plain, none⟩,
    ⟨some 22, .faddr (.tmp 3) 3, none⟩,
    ⟨some 23, .load (.tmp 22) 1 false .plain, none⟩,
    ⟨some 24, .beq true (.tmp 21) (.tmp 23), none⟩] [2, 3, 24])
  (.cond (.tmp 24)
    (.seq (.region [
      ⟨some 4, .mov (.const (.bool false)), none⟩] [4])
    .ret)
    .skip))
  (.seq (.seq (.region [
    ⟨some 25, .faddr (.tmp 2) 4, none⟩,
    ⟨some 26, .load (.tmp 25) 1 false .plain, none⟩,
    ⟨some 27, .faddr (.tmp 3) 4, none⟩,
    ⟨some 28, .load (.tmp 27) 1 false .plain, none⟩,
    ⟨some 29, .bin .neq (.tmp 26) (.tmp 28), none⟩] [2, 3, 29])
  (.cond (.tmp 29)
    (.seq (.region [
      ⟨some 4, .mov (.const (.bool false)), none⟩] [4])
    .ret)
    .skip))
  (.seq (.seq (.region [
    ⟨some 30, .faddr (.tmp 2) 5, none⟩,
    ⟨some 31, .load (.tmp 30) 1 false .plain, none⟩,
    ⟨some 32, .faddr (.tmp 3) 5, none⟩,
    ⟨some 33, .load (.tmp 32) 1 false .plain, none⟩,
    ⟨some 34, .call 5 [false, false] [.tmp 31, .tmp 33], none⟩,
    ⟨some 35, .un .not (.tmp 34), none⟩] [2, 3, 35])
  (.cond (.tmp 35)
    (.seq (.region [
      ⟨some 4, .mov (.const (.bool false)), none⟩] [4])
    .ret)
    .skip))
  (.seq (.seq (.region [
    ⟨some 36, .faddr (.tmp 2) 6, none⟩,
    ⟨some 37, .load (.tmp 36) 1 false .plain, none⟩,
    ⟨some 38, .faddr (.tmp 3) 6, none⟩,
    ⟨some 39, .load (.tmp 38) 1 false .plain, none⟩,
    ⟨some 40, .call 10 [false, false] [.tmp 37, .tmp 39], none⟩,
    ⟨some 41, .un .not (.tmp 40), none⟩] [2, 3, 41])
  (.cond (.tmp 41)
    (.seq (.region [
      ⟨some 4, .mov (.const (.bool false)), none⟩] [4])
    .ret)
    .skip))
  (.seq (.seq (.region [
    ⟨some 42, .faddr (.tmp 2) 7, none⟩,
    ⟨some 43, .load (.tmp 42) 1 false .plain, none⟩,
    ⟨some 44, .faddr (.tmp 3) 7, none⟩,
    ⟨some 45, .load (.tmp 44) 1 false .plain, none⟩,
    ⟨some 46, .call 115 [false, false] [.tmp 43, .tmp 45], none⟩,
    ⟨some 47, .un .not (.tmp 46), none⟩] [2, 3, 47])
  (.cond (.tmp 47)
    (.seq (.region [
      ⟨some 4, .mov (.const (.bool false)), none⟩] [4])
    .ret)
    .skip))
  (.seq (.seq (.region [
    ⟨some 48, .faddr (.tmp 2) 8, none⟩,
    ⟨some 49, .load (.tmp 48) 1 false .plain, none⟩,
    ⟨some 50, .faddr (.tmp 3) 8, none⟩,
    ⟨some 51, .load (.tmp 50) 1 false .plain, none⟩,
    ⟨some 52, .call 115 [false, false] [.tmp 49, .tmp 51], none⟩,
    ⟨some 53, .un .not (.tmp 52), none⟩] [53])
  (.cond (.tmp 53)
    (.seq (.region [
      ⟨some 4, .mov (.const (.bool false)), none⟩] [4])
    .ret)
    .skip))
  (.seq (.region [
    ⟨some 4, .mov (.const (.bool true)), none⟩] [4])
  .ret)))))))))))⟩
-- spec.MateValid
def c29b0 : CCode := (.seq (.seq (.region [
    ⟨some 62, .mov (.tmp 3), none⟩,
    ⟨some 63, .faddr (.tmp 1) 7, none⟩,
    ⟨some 64, .load (.tmp 63) 1 false .plain, none⟩,
    ⟨some 65, .len false (.tmp 64), none⟩,
    ⟨some 66, .bin .lss (.tmp 62) (.tmp 65), none⟩] [1, 3, 66])
  (.cond (.tmp 66)
    .skip
    (.exit 0)))
  (.seq (.block 1
    (.seq (.quiet [
      ⟨some 69, .faddr (.tmp 1) 8, none⟩,
      ⟨some 70, .load (.tmp 69) 1 false .plain, none⟩,
      ⟨some 71, .faddr (.tmp 1) 7, none⟩,
      ⟨some 72, .load (.tmp 71) 1 false .plain, none⟩,
      ⟨some 73, .mov (.tmp 3), none⟩,
      ⟨some 74, .iaddr 4 (.tmp 72) (.tmp 73), none⟩,
      ⟨some 75, .faddr (.tmp 74) 0, none⟩,
      ⟨some 76, .load (.tmp 75) 1 false .plain, none⟩,
      ⟨some 77, .call 110 [false, false] [.tmp 70, .tmp 76], none⟩,
      ⟨some 78, .bin .geq (.tmp 77) (.const (.int .i64 0)), none⟩] [1, 3, 78])
    (.cond (.tmp 78)
      (.seq (.region [
        ⟨some 2, .mov (.const (.bool false)), none⟩] [2])
      .ret)
      .skip)))
  (.region [
    ⟨some 67, .mov (.tmp 3), none⟩,
    ⟨some 68, .bin .add (.tmp 67) (.const (.int .i64 1)), none⟩,
    ⟨some 3, .mov (.tmp 68), none⟩] [1, 3])))
def c29b1 : CCode := (.seq (.seq (.region [
    ⟨some 81, .mov (.tmp 4), none⟩,
    ⟨some 82, .faddr (.tmp 1) 6, none⟩,
    ⟨some 83, .load (.tmp 82) 1 false .plain, none⟩,
    ⟨some 84, .len false (.tmp 83), none⟩,
    ⟨some 85, .bin .lss (.tmp 81) (.tmp 84), none⟩] [1, 4, 85])
  (.cond (.tmp 85)
    .skip
    (.exit 2)))
  (.seq (.block 3
    (.seq (.region [
      ⟨some 88, .faddr (.tmp 1) 6, none⟩,
      ⟨some 89, .load (.tmp 88) 1 false .plain, none⟩,
      ⟨some 90, .mov (.tmp 4), none⟩,
      ⟨some 91, .iaddr 11 (.tmp 89) (.tmp 90), none⟩,
      ⟨some 92, .load (.tmp 91) 11 true .plain, none⟩,
      ⟨some 93, .call 2 [false] [.tmp 92], none⟩,
      ⟨some 94, .un .not (.tmp 93), none⟩,
      ⟨some 95, .mov (.tmp 94), none⟩,
      ⟨some 96, .faddr (.tmp 1) 6, some (95, true)⟩,
      ⟨some 97, .load (.tmp 96) 1 false .plain, some (95, true)⟩,
      ⟨some 98, .mov (.tmp 4), some (95, true)⟩,
      ⟨some 99, .iaddr 11 (.tmp 97) (.tmp 98), some (95, true)⟩,
      ⟨some 100, .faddr (.tmp 99) 0, some (95, true)⟩,
      ⟨some 101, .faddr (.tmp 100) 2, some (95, true)⟩,
      ⟨some 102, .load (.tmp 101) 1 false .plain, some (95, true)⟩,
      ⟨some 103, .bin .eql (.tmp 102) (.const (.str ⟨#[]⟩)), some (95, true)⟩,
      ⟨some 104, .pick (.tmp 95) (.tmp 103) (.const (.bool false)), none⟩] [1, 4, 104])
    (.cond (.tmp 104)
      (.seq (.region [
        ⟨some 2, .mov (.const (.bool false)), none⟩] [2])
      .ret)
      .skip)))
  (.region [
    ⟨some 86, .mov (.tmp 4), none⟩,
    ⟨some 87, .bin .add (.tmp 86) (.const (.int .i64 1)), none⟩,
    ⟨some 4, .mov (.tmp 87), none⟩] [1, 4])))
def c29 : CFn := ⟨123, [.tmp 2],
  (.seq (.region [
    ⟨some 1, .box (.tmp 0), none⟩,
    ⟨some 2, .mov (.const (.bool false)), none⟩] [1])
  (.seq (.seq (.region [
    ⟨some 5, .faddr (.tmp 1) 0, none⟩,
    ⟨some 6, .load (.tmp 5) 1 false .plain, none⟩,
    ⟨some 7, .call 101 [false] [.tmp 6], none⟩,
    ⟨some 8, .un .not (.tmp 7), none⟩,
    ⟨some 9, .mov (.tmp 8), none⟩,
    ⟨some 10, .faddr (.tmp 1) 2, some (9, false)⟩,
    ⟨some 11, .load (.tmp 10) 1 false .plain, some (9, false)⟩,
    ⟨some 12, .call 102 [false, false, false] [.tmp 11, .const (.int .i64 0), .const (.int .i64 1000000)], some (9, false)⟩,
    ⟨some 13, .un .not (.tmp 12), some (9, false)⟩,
    ⟨some 14, .pick (.tmp 9) (.const (.bool true)) (.tmp 13), none⟩,
    ⟨some 15, .mov (.tmp 14), none⟩,
    ⟨some 16, .faddr (.tmp 1) 4, some (15, false)⟩,
    ⟨some 17, .load (.tmp 16) 1 false .plain, some (15, false)⟩,
    ⟨some 18, .call 102 [false, false, false] [.tmp 17, .const (.int .i64 0), .const (.int .i64 1000000)], some (15, false)⟩,
    ⟨some 19, .un .not (.tmp 18), some (15, false)⟩,
    ⟨some 20, .pick (.tmp 15) (.const (.bool true)) (.tmp 19), none⟩,
    ⟨some 21, .mov (.tmp 20), none⟩,
    ⟨some 22, .faddr (.tmp 1) 5, some (21, false)⟩,
    ⟨some 23, .load (.tmp 22) 1 false .plain, some (21, false)⟩,
    ⟨some 24, .call 7 [false] [.tmp 23], some (21, false)⟩,
    ⟨some 25, .un .not (.tmp 24), some (21, false)⟩,
    ⟨some 26, .pick (.tmp 21) (.const (.bool true)) (.tmp 25), none⟩,
    ⟨some 27, .mov (.tmp 26), none⟩,
    ⟨some 28, .faddr (.tmp 1) 5, some (27, false)⟩,
    ⟨some 29, .load (.tmp 28) 1 false .plain, some (27, false)⟩,
    ⟨some 30, .len false (.tmp 29), some (27, false)⟩,
    ⟨some 31, .bin .gtr (.tmp 30) (.const (.int .i64 0)), some (27, false)⟩,
    ⟨some 32, .mov (.tmp 31), some (27, false)⟩,
    ⟨some 33, .faddr (.tmp 1) 3, some (32, true)⟩,
    ⟨some 34, .load (.tmp 33) 1 false .plain, some (32, true)⟩,
    ⟨some 35, .un .not (.tmp 34), some (32, true)⟩,
    ⟨some 36, .pick (.tmp 32) (.tmp 35) (.const (.bool false)), some (27, false)⟩,
    ⟨some 37, .pick (.tmp 27) (.const (.bool true)) (.tmp 36), none⟩,
    ⟨some 38, .mov (.tmp 37), none⟩,
    ⟨some 39, .faddr (.tmp 1) 6, some (38, false)⟩,
    ⟨some 40, .load (.tmp 39) 1 false .plain, some (38, false)⟩,
    ⟨some 41, .faddr (.tmp 1) 2, some (38, false)⟩,
    ⟨some 42, .load (.tmp 41) 1 false .plain, some (38, false)⟩,
    ⟨some 43, .call 12 [false, false] [.tmp 40, .tmp 42], some (38, false)⟩,
    ⟨some 44, .un .not (.tmp 43), some (38, false)⟩,
    ⟨some 45, .pick (.tmp 38) (.const (.bool true)) (.tmp 44), none⟩,
    ⟨some 46, .mov (.tmp 45), none⟩,
    ⟨some 47, .faddr (.tmp 1) 7, some (46, false)⟩,
    ⟨some 48, .load (.tmp 47) 1 false .plain, some (46, false)⟩,
    ⟨some 49, .faddr (.tmp 1) 2, some (46, false)⟩,
    ⟨some 50, .load (.tmp 49) 1 false .plain, some (46, false)⟩,
    ⟨some 51, .call 111 [false, false] [.tmp 48, .tmp 50], some (46, false)⟩,
    ⟨some 52, .un .not (.tmp 51), some (46, false)⟩,
    ⟨some 53, .pick (.tmp 46) (.const (.bool true)) (.tmp 52), none⟩,
    ⟨some 54, .mov (.tmp 53), none⟩,
    ⟨some 55, .faddr (.tmp 1) 8, some (54, false)⟩,
    ⟨some 56, .load (.tmp 55) 1 false .plain, some (54, false)⟩,
    ⟨some 57, .faddr (.tmp 1) 2, some (54, false)⟩,
    ⟨some 58, .load (.tmp 57) 1 false .plain, some (54, false)⟩,
    ⟨some 59, .call 111 [false, false] [.tmp 56, .tmp 58], some (54, false)⟩,
    ⟨some 60, .un .not (.tmp 59), some (54, false)⟩,
    ⟨some 61, .pick (.tmp 54) (.const (.bool true)) (.tmp 60), none⟩] [1, 61])
  (.cond (.tmp 61)
    (.seq (.region [
      ⟨some 2, .mov (.const (.bool false)), none⟩] [2])
    .ret)
    .skip))
  (.seq (.seq (.region [
    ⟨some 3, .mov (.const (.int .i64 0)), none⟩] [1, 3])
  (.block 0
    (.loop [1, 3] c29b0)))
  (.seq (.seq (.region [
    ⟨some 79, .faddr (.tmp 1) 1, none⟩,
    ⟨some 80, .load (.tmp 79) 1 false .plain, none⟩] [1, 80])
  (.cond (.tmp 80)
    (.seq (.region [
      ⟨some 2, .mov (.const (.bool true)), none⟩] [2])
    .ret)
    .skip))
  (.seq (.seq (.region [
    ⟨some 4, .mov (.const (.int .i64 0)), none⟩] [1, 4])
  (.block 2
    (.loop [1, 4] c29b1)))
  (.seq (.region [
    ⟨some 105, .faddr (.tmp 1) 3, none⟩,
    ⟨some 106, .load (.tmp 105) 1 false .plain, none⟩,
    ⟨some 107, .un .not (.tmp 106), none⟩,
    ⟨some 108, .mov (.tmp 107), none⟩,
    ⟨some 109, .faddr (.tmp 1) 4, some (108, true)⟩,
    ⟨some 110, .load (.tmp 109) 1 false .plain, some (108, true)⟩,
    ⟨some 111, .bin .eql (.tmp 110) (.const (.int .i64 0)), some (108, true)⟩,
    ⟨some 112, .pick (.tmp 108) (.tmp 111) (.const (.bool false)), none⟩,
    ⟨some 113, .mov (.tmp 112), none⟩,
    ⟨some 114, .faddr (.tmp 1) 7, some (113, true)⟩,
    ⟨some 115, .load (.tmp 114) 1 false .plain, some (113, true)⟩,
    ⟨some 116, .len false (.tmp 115), some (113, true)⟩,
    ⟨some 117, .faddr (.tmp 1) 8, some (113, true)⟩,
    ⟨some 118, .load (.tmp 117) 1 false .plain, some (113, true)⟩,
    ⟨some 119, .len false (.tmp 118), some (113, true)⟩,
    ⟨some 120, .bin .add (.tmp 116) (.tmp 119), some (113, true)⟩,
    ⟨some 121, .bin .eql (.tmp 120) (.const (.int .i64 0)), some (113, true)⟩,
    ⟨some 122, .pick (.tmp 113) (.tmp 121) (.const (.bool false)), none⟩,
    ⟨some 2, .mov (.tmp 122), none⟩] [2])
  .ret))))))⟩
-- laws.heldMateLand
def c39 : CFn := ⟨18, [.tmp 4],
  (.seq (.region [
    ⟨some 2, .box (.tmp 0), none⟩,
    ⟨some 4, .mov (.const (.int .i64 0)), none⟩] [1, 2])
  (.seq (.region [
    ⟨some 5, .faddr (.tmp 2) 1, none⟩,
    ⟨some 6, .load (.tmp 5) 1 false .plain, none⟩,
    ⟨some 7, .mov (.tmp 1), none⟩,
    ⟨some 8, .call 126 [false, false] [.tmp 6, .tmp 7], none⟩,
    ⟨some 1, .mov (.tmp 8), none⟩] [1, 2])
  (.seq (.seq (.region [
    ⟨some 9, .mov (.tmp 1), none⟩,
    ⟨some 10, .bin .lss (.tmp 9) (.const (.int .i64 0)), none⟩] [1, 2, 10])
  (.cond (.tmp 10)
    (.seq (.region [
      ⟨some 4, .mov (.const (.int .i64 (-1))), none⟩] [4])
    .ret)
    .skip))
  (.seq (.region [
    ⟨some 11, .faddr (.tmp 2) 2, none⟩,
    ⟨some 12, .load (.tmp 11) 1 false .plain, none⟩,
    ⟨some 13, .mov (.tmp 1), none⟩,
    ⟨some 14, .call 125 [false, false] [.tmp 12, .tmp 13], none⟩,
    ⟨some 1, .mov (.tmp 14), none⟩] [1])
  (.seq (.seq (.region [
    ⟨some 15, .mov (.tmp 1), none⟩,
    ⟨some 16, .bin .lss (.tmp 15) (.const (.int .i64 0)), none⟩] [1, 16])
  (.cond (.tmp 16)
    (.seq (.region [
      ⟨some 4, .mov (.const (.int .i64 (-1))), none⟩] [4])
    .ret)
    .skip))
  (.seq (.region [
    ⟨some 17, .mov (.tmp 1), none⟩,
    ⟨some 4, .mov (.tmp 17), none⟩] [4])
  .ret))))))⟩
-- laws.markMateLand
def c43 : CFn := ⟨14, [.tmp 4],
  (.seq (.region [
    ⟨some 2, .box (.tmp 0), none⟩,
    ⟨some 4, .mov (.const (.int .i64 0)), none⟩] [1, 2])
  (.seq (.region [
    ⟨some 5, .faddr (.tmp 2) 1, none⟩,
    ⟨some 6, .load (.tmp 5) 1 false .plain, none⟩,
    ⟨some 7, .mov (.tmp 1), none⟩,
    ⟨some 8, .call 124 [true, false] [.tmp 6, .tmp 7], none⟩,
    ⟨some 1, .mov (.tmp 8), none⟩] [1, 2])
  (.seq (.region [
    ⟨some 9, .faddr (.tmp 2) 2, none⟩,
    ⟨some 10, .load (.tmp 9) 1 false .plain, none⟩,
    ⟨some 11, .mov (.tmp 1), none⟩,
    ⟨some 12, .call 123 [true, false] [.tmp 10, .tmp 11], none⟩,
    ⟨some 1, .mov (.tmp 12), none⟩] [1])
  (.seq (.region [
    ⟨some 13, .mov (.tmp 1), none⟩,
    ⟨some 4, .mov (.tmp 13), none⟩] [4])
  .ret))))⟩
-- laws.heldMateWorld
def c47 : CFn := ⟨24, [.tmp 4],
  (.seq (.region [
    ⟨some 2, .box (.tmp 0), none⟩,
    ⟨some 4, .mov (.const (.int .i64 0)), none⟩] [1, 2])
  (.seq (.region [
    ⟨some 5, .faddr (.tmp 2) 0, none⟩,
    ⟨some 6, .load (.tmp 5) 3 true .plain, none⟩,
    ⟨some 7, .mov (.tmp 1), none⟩,
    ⟨some 8, .call 39 [false, false] [.tmp 6, .tmp 7], none⟩,
    ⟨some 1, .mov (.tmp 8), none⟩] [1, 2])
  (.seq (.seq (.region [
    ⟨some 9, .mov (.tmp 1), none⟩,
    ⟨some 10, .bin .lss (.tmp 9) (.const (.int .i64 0)), none⟩] [1, 2, 10])
  (.cond (.tmp 10)
    (.seq (.region [
      ⟨some 4, .mov (.const (.int .i64 (-1))), none⟩] [4])
    .ret)
    .skip))
  (.seq (.region [
    ⟨some 11, .faddr (.tmp 2) 3, none⟩,
    ⟨some 12, .load (.tmp 11) 1 false .plain, none⟩,
    ⟨some 13, .mov (.tmp 1), none⟩,
    ⟨some 14, .call 133 [false, false] [.tmp 12, .tmp 13], none⟩,
    ⟨some 1, .mov (.tmp 14), none⟩] [1, 2])
  (.seq (.seq (.region [
    ⟨some 15, .mov (.tmp 1), none⟩,
    ⟨some 16, .bin .lss (.tmp 15) (.const (.int .i64 0)), none⟩] [1, 2, 16])
  (.cond (.tmp 16)
    (.seq (.region [
      ⟨some 4, .mov (.const (.int .i64 (-1))), none⟩] [4])
    .ret)
    .skip))
  (.seq (.region [
    ⟨some 17, .faddr (.tmp 2) 4, none⟩,
    ⟨some 18, .load (.tmp 17) 1 false .plain, none⟩,
    ⟨some 19, .mov (.tmp 1), none⟩,
    ⟨some 20, .call 132 [false, false] [.tmp 18, .tmp 19], none⟩,
    ⟨some 1, .mov (.tmp 20), none⟩] [1])
  (.seq (.seq (.region [
    ⟨some 21, .mov (.tmp 1), none⟩,
    ⟨some 22, .bin .lss (.tmp 21) (.const (.int .i64 0)), none⟩] [1, 22])
  (.cond (.tmp 22)
    (.seq (.region [
      ⟨some 4, .mov (.const (.int .i64 (-1))), none⟩] [4])
    .ret)
    .skip))
  (.seq (.region [
    ⟨some 23, .mov (.tmp 1), none⟩,
    ⟨some 4, .mov (.tmp 23), none⟩] [4])
  .ret))))))))⟩
-- laws.eqMateWorld
def c48 : CFn := ⟨23, [.tmp 4],
  (.seq (.region [
    ⟨some 2, .box (.tmp 0), none⟩,
    ⟨some 3, .box (.tmp 1), none⟩,
    ⟨some 4, .mov (.const (.bool false)), none⟩] [2, 3])
  (.seq (.seq (.region [
    ⟨some 5, .faddr (.tmp 2) 0, none⟩,
    ⟨some 6, .load (.tmp 5) 3 true .plain, none⟩,
    ⟨some 7, .faddr (.tmp 3) 0, none⟩,
    ⟨some 8, .load (.tmp 7) 3 true .plain, none⟩,
    ⟨some 9, .call 22 [false, false] [.tmp 6, .tmp 8], none⟩,
    ⟨some 10, .un .not (.tmp 9), none⟩] [2, 3, 10])
  (.cond (.tmp 10)
    (.seq (.region [
      ⟨some 4, .mov (.const (.bool false)), none⟩] [4])
    .ret)
    .skip))
  (.seq (.seq (.region [
    ⟨some 11, .faddr (.tmp 2) 3, none⟩,
    ⟨some 12, .load (.tmp 11) 1 false .plain, none⟩,
    ⟨some 13, .faddr (.tmp 3) 3, none⟩,
    ⟨some 14, .load (.tmp 13) 1 false .plain, none⟩,
    ⟨some 15, .call 130 [false, false] [.tmp 12, .tmp 14], none⟩,
    ⟨some 16, .un .not (.tmp 15), none⟩] [2, 3, 16])
  (.cond (.tmp 16)
    (.seq (.region [
      ⟨some 4, .mov (.const (.bool false)), none⟩] [4])
    .ret)
    .skip))
  (.seq (.seq (.region [
    ⟨some 17, .faddr (.tmp 2) 4, none⟩,
    ⟨some 18, .load (.tmp 17) 1 false .plain, none⟩,
    ⟨some 19, .faddr (.tmp 3) 4, none⟩,
    ⟨some 20, .load (.tmp 19) 1 false .plain, none⟩,
    ⟨some 21, .call 53 [false, false] [.tmp 18, .tmp 20], none⟩,
    ⟨some 22, .un .not (.tmp 21), none⟩] [22])
  (.cond (.tmp 22)
    (.seq (.region [
      ⟨some 4, .mov (.const (.bool false)), none⟩] [4])
    .ret)
    .skip))
  (.seq (.region [
    ⟨some 4, .mov (.const (.bool true)), none⟩] [4])
  .ret)))))⟩
-- laws.toStringS
def c49b0 : CCode := (.seq (.seq (.region [
    ⟨some 8, .mov (.tmp 4), none⟩,
    ⟨some 9, .mov (.tmp 0), none⟩,
    ⟨some 10, .len false (.tmp 9), none⟩,
    ⟨some 11, .bin .lss (.tmp 8) (.tmp 10), none⟩] [0, 3, 4, 11])
  (.cond (.tmp 11)
    .skip
    (.exit 0)))
  (.seq (.block 1
    (.region [
      ⟨some 14, .mov (.tmp 3), none⟩,
      ⟨some 15, .mov (.tmp 4), none⟩,
      ⟨some 16, .mov (.tmp 0), none⟩,
      ⟨some 17, .mov (.tmp 4), none⟩,
      ⟨some 18, .iaddr 1 (.tmp 16) (.tmp 17), none⟩,
      ⟨some 19, .load (.tmp 18) 1 false .plain, none⟩,
      ⟨some 20, .iaddr 1 (.tmp 14) (.tmp 15), none⟩,
      ⟨none, .store (.tmp 20) (.tmp 19) 1, none⟩] [0, 3, 4]))
  (.region [
    ⟨some 12, .mov (.tmp 4), none⟩,
    ⟨some 13, .bin .add (.tmp 12) (.const (.int .i64 1)), none⟩,
    ⟨some 4, .mov (.tmp 13), none⟩] [0, 3, 4])))
def c49 : CFn := ⟨22, [.tmp 2],
  (.seq (.region [
    ⟨some 2, .mov (.const (.sl .own 1 [])), none⟩] [0])
  (.seq (.region [
    ⟨some 5, .mov (.tmp 0), none⟩,
    ⟨some 6, .len false (.tmp 5), none⟩,
    ⟨some 7, .mksl 1 [.str ⟨#[]⟩] 16 (.tmp 6), none⟩,
    ⟨some 3, .mov (.tmp 7), none⟩] [0, 3])
  (.seq (.seq (.region [
    ⟨some 4, .mov (.const (.int .i64 0)), none⟩] [0, 3, 4])
  (.block 0
    (.loop [0, 3, 4] c49b0)))
  (.seq (.region [
    ⟨some 21, .mov (.tmp 3), none⟩,
    ⟨some 2, .mov (.tmp 21), none⟩] [2])
  .ret))))⟩
-- impl.MateNewWorld
def c50b0 : CCode := (.seq (.region [
    ⟨some 18, .bin .lss (.tmp 17) (.tmp 16), none⟩] [0, 2, 3, 15, 16, 17, 18])
  (.seq (.cond (.tmp 18)
    .skip
    (.exit 0))
  (.seq (.block 1
    (.seq (.region [
      ⟨some 19, .mov (.tmp 17), none⟩,
      ⟨some 20, .iaddr 1 (.tmp 15) (.tmp 17), none⟩,
      ⟨some 21, .load (.tmp 20) 1 false .plain, none⟩,
      ⟨some 4, .mov (.tmp 19), none⟩,
      ⟨some 5, .mov (.tmp 21), none⟩] [0, 2, 3, 4, 5, 15, 16, 17])
    (.seq (.seq (.region [
      ⟨some 22, .mov (.tmp 5), none⟩,
      ⟨some 23, .call 105 [false] [.tmp 22], none⟩,
      ⟨some 24, .un .not (.tmp 23), none⟩,
      ⟨some 25, .mov (.tmp 24), none⟩,
      ⟨some 26, .mov (.tmp 4), some (25, false)⟩,
      ⟨some 27, .bin .gtr (.tmp 26) (.const (.int .i64 0)), some (25, false)⟩,
      ⟨some 28, .mov (.tmp 27), some (25, false)⟩,
      ⟨some 29, .mov (.tmp 0), some (28, true)⟩,
      ⟨some 30, .mov (.tmp 4), some (28, true)⟩,
      ⟨some 31, .bin .sub (.tmp 30) (.const (.int .i64 1)), some (28, true)⟩,
      ⟨some 32, .iaddr 1 (.tmp 29) (.tmp 31), some (28, true)⟩,
      ⟨some 33, .load (.tmp 32) 1 false .plain, some (28, true)⟩,
      ⟨some 34, .mov (.tmp 5), some (28, true)⟩,
      ⟨some 35, .bin .geq (.tmp 33) (.tmp 34), some (28, true)⟩,
      ⟨some 36, .pick (.tmp 28) (.tmp 35) (.const (.bool false)), some (25, false)⟩,
      ⟨some 37, .pick (.tmp 25) (.const (.bool true)) (.tmp 36), none⟩] [0, 2, 3, 5, 15, 16, 17, 37])
    (.cond (.tmp 37)
      (.seq (.region [
        ⟨some 38, .build [.int .i64 0, .sl .own 5 [], .sl .own 3 [], .sl .own 9 [], .sl .own 1 []] [], none⟩,
        ⟨none, .store (.tmp 2) (.tmp 38) 5, none⟩] [2])
      .ret)
      .skip))
    (.region [
      ⟨some 39, .faddr (.tmp 3) 3, none⟩,
      ⟨some 40, .load (.tmp 39) 1 false .plain, none⟩,
      ⟨some 41, .mov (.tmp 5), none⟩,
      ⟨some 42, .build [.str ⟨#[]⟩, .bool false, .int .i64 0, .bool false, .int .i64 0, .sl .own 7 [], .sl .own 11 [], .sl .own 4 [], .sl .own 4 []] [(0, 1, .tmp 41), (1, 1, .const (.bool true))], none⟩,
      ⟨some 43, .bslice 9 [.str ⟨#[]⟩, .bool false, .int .i64 0, .bool false, .int .i64 0, .sl .own 7 [], .sl .own 11 [], .sl .own 4 [], .sl .own 4 []] 1 [(0, .tmp 42)], none⟩,
      ⟨some 44, .append 9 144 false (.tmp 40) (.tmp 43), none⟩,
      ⟨some 45, .faddr (.tmp 3) 3, none⟩,
      ⟨none, .store (.tmp 45) (.tmp 44) 1, none⟩] [0, 2, 3, 15, 16, 17]))))
  (.region [
    ⟨some 46, .bin .add (.tmp 17) (.const (.int .i64 1)), none⟩,
    ⟨some 17, .mov (.tmp 46), none⟩] [0, 2, 3, 15, 16, 17]))))
def c50 : CFn := ⟨48, [.cell 2 5 true],
  (.seq (.region [
    ⟨some 2, .alloc [.int .i64 0, .sl .own 5 [], .sl .own 3 [], .sl .own 9 [], .sl .own 1 []], none⟩] [0, 2])
  (.seq (.seq (.region [
    ⟨some 6, .mov (.tmp 0), none⟩,
    ⟨some 7, .len false (.tmp 6), none⟩,
    ⟨some 8, .bin .lss (.tmp 7) (.const (.int .i64 1)), none⟩,
    ⟨some 9, .mov (.tmp 8), none⟩,
    ⟨some 10, .mov (.tmp 0), some (9, false)⟩,
    ⟨some 11, .len false (.tmp 10), some (9, false)⟩,
    ⟨some 12, .bin .gtr (.tmp 11) (.const (.int .i64 4)), some (9, false)⟩,
    ⟨some 13, .pick (.tmp 9) (.const (.bool true)) (.tmp 12), none⟩] [0, 2, 13])
  (.cond (.tmp 13)
    (.seq (.region [
      ⟨some 14, .build [.int .i64 0, .sl .own 5 [], .sl .own 3 [], .sl .own 9 [], .sl .own 1 []] [], none⟩,
      ⟨none, .store (.tmp 2) (.tmp 14) 5, none⟩] [2])
    .ret)
    .skip))
  (.seq (.region [
    ⟨some 3, .alloc [.int .i64 0, .sl .own 5 [], .sl .own 3 [], .sl .own 9 [], .sl .own 1 []], none⟩] [0, 2, 3])
  (.seq (.seq (.region [
    ⟨some 15, .mov (.tmp 0), none⟩,
    ⟨some 16, .len false (.tmp 15), none⟩,
    ⟨some 17, .mov (.const (.int .i64 0)), none⟩] [0, 2, 3, 15, 16, 17])
  (.block 0
    (.loop [0, 2, 3, 15, 16, 17] c50b0)))
  (.seq (.region [
    ⟨some 47, .load (.tmp 3) 5 true .plain, none⟩,
    ⟨none, .store (.tmp 2) (.tmp 47) 5, none⟩] [2])
  .ret)))))⟩
-- laws.markMateWorld
def c51 : CFn := ⟨18, [.tmp 4],
  (.seq (.region [
    ⟨some 2, .box (.tmp 0), none⟩,
    ⟨some 4, .mov (.const (.int .i64 0)), none⟩] [1, 2])
  (.seq (.region [
    ⟨some 5, .faddr (.tmp 2) 0, none⟩,
    ⟨some 6, .load (.tmp 5) 3 true .plain, none⟩,
    ⟨some 7, .mov (.tmp 1), none⟩,
    ⟨some 8, .call 43 [true, false] [.tmp 6, .tmp 7], none⟩,
    ⟨some 1, .mov (.tmp 8), none⟩] [1, 2])
  (.seq (.region [
    ⟨some 9, .faddr (.tmp 2) 3, none⟩,
    ⟨some 10, .load (.tmp 9) 1 false .plain, none⟩,
    ⟨some 11, .mov (.tmp 1), none⟩,
    ⟨some 12, .call 131 [true, false] [.tmp 10, .tmp 11], none⟩,
    ⟨some 1, .mov (.tmp 12), none⟩] [1, 2])
  (.seq (.region [
    ⟨some 13, .faddr (.tmp 2) 4, none⟩,
    ⟨some 14, .load (.tmp 13) 1 false .plain, none⟩,
    ⟨some 15, .mov (.tmp 1), none⟩,
    ⟨some 16, .call 52 [true, false] [.tmp 14, .tmp 15], none⟩,
    ⟨some 1, .mov (.tmp 16), none⟩] [1])
  (.seq (.region [
    ⟨some 17, .mov (.tmp 1), none⟩,
    ⟨some 4, .mov (.tmp 17), none⟩] [4])
  .ret)))))⟩
-- laws.markStringS
def c52b0 : CCode := (.seq (.seq (.region [
    ⟨some 6, .mov (.tmp 5), none⟩,
    ⟨some 7, .mov (.tmp 0), none⟩,
    ⟨some 8, .len false (.tmp 7), none⟩,
    ⟨some 9, .bin .lss (.tmp 6) (.tmp 8), none⟩] [0, 1, 5, 9])
  (.cond (.tmp 9)
    .skip
    (.exit 0)))
  (.seq (.block 1
    (.seq (.region [
      ⟨some 12, .mov (.tmp 0), none⟩,
      ⟨some 13, .mov (.tmp 5), none⟩,
      ⟨some 14, .mov (.tmp 1), none⟩,
      ⟨some 15, .call 96 [false] [.tmp 14], none⟩,
      ⟨some 16, .iaddr 1 (.tmp 12) (.tmp 13), none⟩,
      ⟨none, .store (.tmp 16) (.tmp 15) 1, none⟩] [0, 1, 5])
    (.region [
      ⟨some 17, .mov (.tmp 1), none⟩,
      ⟨some 18, .bin .add (.tmp 17) (.const (.int .i64 1)), none⟩,
      ⟨some 1, .mov (.tmp 18), none⟩] [0, 1, 5])))
  (.region [
    ⟨some 10, .mov (.tmp 5), none⟩,
    ⟨some 11, .bin .add (.tmp 10) (.const (.int .i64 1)), none⟩,
    ⟨some 5, .mov (.tmp 11), none⟩] [0, 1, 5])))
def c52 : CFn := ⟨20, [.tmp 4],
  (.seq (.region [
    ⟨some 4, .mov (.const (.int .i64 0)), none⟩] [0, 1])
  (.seq (.seq (.region [
    ⟨some 5, .mov (.const (.int .i64 0)), none⟩] [0, 1, 5])
  (.block 0
    (.loop [0, 1, 5] c52b0)))
  (.seq (.region [
    ⟨some 19, .mov (.tmp 1), none⟩,
    ⟨some 4, .mov (.tmp 19), none⟩] [4])
  .ret)))⟩
-- laws.eqStringS
def c53b0 : CCode := (.seq (.seq (.region [
    ⟨some 11, .mov (.tmp 5), none⟩,
    ⟨some 12, .mov (.tmp 0), none⟩,
    ⟨some 13, .len false (.tmp 12), none⟩,
    ⟨some 14, .bin .lss (.tmp 11) (.tmp 13), none⟩] [0, 1, 5, 14])
  (.cond (.tmp 14)
    .skip
    (.exit 0)))
  (.seq (.block 1
    (.seq (.quiet [
      ⟨some 17, .mov (.tmp 0), none⟩,
      ⟨some 18, .mov (.tmp 5), none⟩,
      ⟨some 19, .iaddr 1 (.tmp 17) (.tmp 18), none⟩,
      ⟨some 20, .load (.tmp 19) 1 false .plain, none⟩,
      ⟨some 21, .mov (.tmp 1), none⟩,
      ⟨some 22, .mov (.tmp 5), none⟩,
      ⟨some 23, .iaddr 1 (.tmp 21) (.tmp 22), none⟩,
      ⟨some 24, .load (.tmp 23) 1 false .plain, none⟩,
      ⟨some 25, .bin .neq (.tmp 20) (.tmp 24), none⟩] [0, 1, 5, 25])
    (.cond (.tmp 25)
      (.seq (.region [
        ⟨some 4, .mov (.const (.bool false)), none⟩] [4])
      .ret)
      .skip)))
  (.region [
    ⟨some 15, .mov (.tmp 5), none⟩,
    ⟨some 16, .bin .add (.tmp 15) (.const (.int .i64 1)), none⟩,
    ⟨some 5, .mov (.tmp 16), none⟩] [0, 1, 5])))
def c53 : CFn := ⟨26, [.tmp 4],
  (.seq (.region [
    ⟨some 4, .mov (.const (.bool false)), none⟩] [0, 1])
  (.seq (.seq (.region [
    ⟨some 6, .mov (.tmp 0), none⟩,
    ⟨some 7, .len false (.tmp 6), none⟩,
    ⟨some 8, .mov (.tmp 1), none⟩,
    ⟨some 9, .len false (.tmp 8), none⟩,
    ⟨some 10, .bin .neq (.tmp 7) (.tmp 9), none⟩] [0, 1, 10])
  (.cond (.tmp 10)
    (.seq (.region [
      ⟨some 4, .mov (.const (.bool false)), none⟩] [4])
    .ret)
    .skip))
  (.seq (.seq (.region [
    ⟨some 5, .mov (.const (.int .i64 0)), none⟩] [0, 1, 5])
  (.block 0
    (.loop [0, 1, 5] c53b0)))
  (.seq (.region [
    ⟨some 4, .mov (.const (.bool true)), none⟩] [4])
  .ret))))⟩
-- spec.MateNewWorld
def c54b0 : CCode := (.seq (.seq (.region [
    ⟨some 6, .mov (.tmp 4), none⟩,
    ⟨some 7, .mov (.tmp 0), none⟩,
    ⟨some 8, .len false (.tmp 7), none⟩,
    ⟨some 9, .bin .lss (.tmp 6) (.tmp 8), none⟩] [0, 2, 3, 4, 9])
  (.cond (.tmp 9)
    .skip
    (.exit 0)))
  (.seq (.block 1
    (.loud [
      ⟨some 12, .faddr (.tmp 3) 3, none⟩,
      ⟨some 13, .load (.tmp 12) 1 false .plain, none⟩,
      ⟨some 14, .mov (.tmp 0), none⟩,
      ⟨some 15, .mov (.tmp 4), none⟩,
      ⟨some 16, .iaddr 1 (.tmp 14) (.tmp 15), none⟩,
      ⟨some 17, .load (.tmp 16) 1 false .plain, none⟩,
      ⟨some 18, .build [.str ⟨#[]⟩, .bool false, .int .i64 0, .bool false, .int .i64 0, .sl .own 7 [], .sl .own 11 [], .sl .own 4 [], .sl .own 4 []] [(0, 1, .tmp 17), (1, 1, .const (.bool true))], none⟩,
      ⟨some 19, .bslice 9 [.str ⟨#[]⟩, .bool false, .int .i64 0, .bool false, .int .i64 0, .sl .own 7 [], .sl .own 11 [], .sl .own 4 [], .sl .own 4 []] 1 [(0, .tmp 18)], none⟩,
      ⟨some 20, .append 9 144 false (.tmp 13) (.tmp 19), none⟩,
      ⟨some 21, .faddr (.tmp 3) 3, none⟩,
      ⟨none, .store (.tmp 21) (.tmp 20) 1, none⟩] [0, 1, 0, 0, 12, 28, 60, 124, 255, 511, 1023] [0, 2, 3, 4]))
  (.region [
    ⟨some 10, .mov (.tmp 4), none⟩,
    ⟨some 11, .bin .add (.tmp 10) (.const (.int .i64 1)), none⟩,
    ⟨some 4, .mov (.tmp 11), none⟩] [0, 2, 3, 4])))
def c54 : CFn := ⟨27, [.cell 2 5 true],
  (.seq (.region [
    ⟨some 2, .alloc [.int .i64 0, .sl .own 5 [], .sl .own 3 [], .sl .own 9 [], .sl .own 1 []], none⟩] [0, 2])
  (.seq (.region [
    ⟨some 5, .build [.int .i64 0, .sl .own 5 [], .sl .own 3 [], .sl .own 9 [], .sl .own 1 []] [], none⟩,
    ⟨some 3, .alloc [.int .i64 0, .sl .own 5 [], .sl .own 3 [], .sl .own 9 [], .sl .own 1 []], none⟩,
    ⟨none, .store (.tmp 3) (.tmp 5) 5, none⟩] [0, 2, 3])
  (.seq (.seq (.region [
    ⟨some 4, .mov (.const (.int .i64 0)), none⟩] [0, 2, 3, 4])
  (.block 0
    (.loop [0, 2, 3, 4] c54b0)))
  (.seq (.seq (.region [
    ⟨some 22, .load (.tmp 3) 5 true .plain, none⟩,
    ⟨some 23, .call 58 [false] [.tmp 22], none⟩,
    ⟨some 24, .un .not (.tmp 23), none⟩] [2, 3, 24])
  (.cond (.tmp 24)
    (.seq (.region [
      ⟨some 25, .build [.int .i64 0, .sl .own 5 [], .sl .own 3 [], .sl .own 9 [], .sl .own 1 []] [], none⟩,
      ⟨none, .store (.tmp 2) (.tmp 25) 5, none⟩] [2])
    .ret)
    .skip))
  (.seq (.region [
    ⟨some 26, .load (.tmp 3) 5 true .plain, none⟩,
    ⟨none, .store (.tmp 2) (.tmp 26) 5, none⟩] [2])
  .ret)))))⟩
-- laws.szStringS
def c55b0 : CCode := (.seq (.seq (.region [
    ⟨some 12, .mov (.tmp 5), none⟩,
    ⟨some 13, .mov (.tmp 0), none⟩,
    ⟨some 14, .len false (.tmp 13), none⟩,
    ⟨some 15, .bin .lss (.tmp 12) (.tmp 14), none⟩] [0, 1, 5, 15])
  (.cond (.tmp 15)
    .skip
    (.exit 0)))
  (.seq (.block 1
    (.seq (.region [
      ⟨some 18, .mov (.tmp 1), none⟩,
      ⟨some 19, .mov (.tmp 0), none⟩,
      ⟨some 20, .mov (.tmp 5), none⟩,
      ⟨some 21, .iaddr 1 (.tmp 19) (.tmp 20), none⟩,
      ⟨some 22, .load (.tmp 21) 1 false .plain, none⟩,
      ⟨some 23, .len true (.tmp 22), none⟩,
      ⟨some 24, .bin .sub (.tmp 18) (.tmp 23), none⟩,
      ⟨some 1, .mov (.tmp 24), none⟩] [0, 1, 5])
    (.seq (.region [
      ⟨some 25, .mov (.tmp 1), none⟩,
      ⟨some 26, .bin .lss (.tmp 25) (.const (.int .i64 0)), none⟩] [0, 1, 5, 26])
    (.cond (.tmp 26)
      (.seq (.region [
        ⟨some 4, .mov (.const (.int .i64 (-1))), none⟩] [4])
      .ret)
      .skip))))
  (.region [
    ⟨some 16, .mov (.tmp 5), none⟩,
    ⟨some 17, .bin .add (.tmp 16) (.const (.int .i64 1)), none⟩,
    ⟨some 5, .mov (.tmp 17), none⟩] [0, 1, 5])))
def c55 : CFn := ⟨28, [.tmp 4],
  (.seq (.region [
    ⟨some 4, .mov (.const (.int .i64 0)), none⟩] [0, 1])
  (.seq (.region [
    ⟨some 6, .mov (.tmp 1), none⟩,
    ⟨some 7, .mov (.tmp 0), none⟩,
    ⟨some 8, .len false (.tmp 7), none⟩,
    ⟨some 9, .bin .sub (.tmp 6) (.tmp 8), none⟩,
    ⟨some 1, .mov (.tmp 9), none⟩] [0, 1])
  (.seq (.seq (.region [
    ⟨some 10, .mov (.tmp 1), none⟩,
    ⟨some 11, .bin .lss (.tmp 10) (.const (.int .i64 0)), none⟩] [0, 1, 11])
  (.cond (.tmp 11)
    (.seq (.region [
      ⟨some 4, .mov (.const (.int .i64 (-1))), none⟩] [4])
    .ret)
    .skip))
  (.seq (.seq (.region [
    ⟨some 5, .mov (.const (.int .i64 0)), none⟩] [0, 1, 5])
  (.block 0
    (.loop [0, 1, 5] c55b0)))
  (.seq (.region [
    ⟨some 27, .mov (.tmp 1), none⟩,
    ⟨some 4, .mov (.tmp 27), none⟩] [4])
  .ret)))))⟩
-- spec.MateWorldOk
def c58b0 : CCode := (.seq (.seq (.region [
    ⟨some 21, .mov (.tmp 3), none⟩,
    ⟨some 22, .faddr (.tmp 1) 3, none⟩,
    ⟨some 23, .load (.tmp 22) 1 false .plain, none⟩,
    ⟨some 24, .len false (.tmp 23), none⟩,
    ⟨some 25, .bin .lss (.tmp 21) (.tmp 24), none⟩] [1, 3, 25])
  (.cond (.tmp 25)
    .skip
    (.exit 0)))
  (.seq (.block 1
    (.seq (.quiet [
      ⟨some 28, .faddr (.tmp 1) 3, none⟩,
      ⟨some 29, .load (.tmp 28) 1 false .plain, none⟩,
      ⟨some 30, .mov (.tmp 3), none⟩,
      ⟨some 31, .iaddr 9 (.tmp 29) (.tmp 30), none⟩,
      ⟨some 32, .load (.tmp 31) 9 true .plain, none⟩,
      ⟨some 33, .call 29 [false] [.tmp 32], none⟩,
      ⟨some 34, .un .not (.tmp 33), none⟩,
      ⟨some 35, .mov (.tmp 34), none⟩,
      ⟨some 36, .mov (.tmp 3), some (35, false)⟩,
      ⟨some 37, .bin .gtr (.tmp 36) (.const (.int .i64 0)), some (35, false)⟩,
      ⟨some 38, .mov (.tmp 37), some (35, false)⟩,
      ⟨some 39, .faddr (.tmp 1) 3, some (38, true)⟩,
      ⟨some 40, .load (.tmp 39) 1 false .plain, some (38, true)⟩,
      ⟨some 41, .mov (.tmp 3), some (38, true)⟩,
      ⟨some 42, .bin .sub (.tmp 41) (.const (.int .i64 1)), some (38, true)⟩,
      ⟨some 43, .iaddr 9 (.tmp 40) (.tmp 42), some (38, true)⟩,
      ⟨some 44, .faddr (.tmp 43) 0, some (38, true)⟩,
      ⟨some 45, .load (.tmp 44) 1 false .plain, some (38, true)⟩,
      ⟨some 46, .faddr (.tmp 1) 3, some (38, true)⟩,
      ⟨some 47, .load (.tmp 46) 1 false .plain, some (38, true)⟩,
      ⟨some 48, .mov (.tmp 3), some (38, true)⟩,
      ⟨some 49, .iaddr 9 (.tmp 47) (.tmp 48), some (38, true)⟩,
      ⟨some 50, .faddr (.tmp 49) 0, some (38, true)⟩,
      ⟨some 51, .load (.tmp 50) 1 false .plain, some (38, true)⟩,
      ⟨some 52, .bin .geq (.tmp 45) (.tmp 51), some (38, true)⟩,
      ⟨some 53, .pick (.tmp 38) (.tmp 52) (.const (.bool false)), some (35, false)⟩,
      ⟨some 54, .pick (.tmp 35) (.const (.bool true)) (.tmp 53), none⟩] [1, 3, 54])
    (.cond (.tmp 54)
      (.seq (.region [
        ⟨some 2, .mov (.const (.bool false)), none⟩] [2])
      .ret)
      .skip)))
  (.region [
    ⟨some 26, .mov (.tmp 3), none⟩,
    ⟨some 27, .bin .add (.tmp 26) (.const (.int .i64 1)), none⟩,
    ⟨some 3, .mov (.tmp 27), none⟩] [1, 3])))
def c58 : CFn := ⟨55, [.tmp 2],
  (.seq (.region [
    ⟨some 1, .box (.tmp 0), none⟩,
    ⟨some 2, .mov (.const (.bool false)), none⟩] [1])
  (.seq (.seq (.region [
    ⟨some 4, .faddr (.tmp 1) 0, none⟩,
    ⟨some 5, .load (.tmp 4) 3 true .plain, none⟩,
    ⟨some 6, .call 24 [false] [.tmp 5], none⟩,
    ⟨some 7, .un .not (.tmp 6), none⟩,
    ⟨some 8, .mov (.tmp 7), none⟩,
    ⟨some 9, .faddr (.tmp 1) 3, some (8, false)⟩,
    ⟨some 10, .load (.tmp 9) 1 false .plain, some (8, false)⟩,
    ⟨some 11, .len false (.tmp 10), some (8, false)⟩,
    ⟨some 12, .call 102 [false, false, false] [.tmp 11, .const (.int .i64 1), .const (.int .i64 4)], some (8, false)⟩,
    ⟨some 13, .un .not (.tmp 12), some (8, false)⟩,
    ⟨some 14, .pick (.tmp 8) (.const (.bool true)) (.tmp 13), none⟩,
    ⟨some 15, .mov (.tmp 14), none⟩,
    ⟨some 16, .faddr (.tmp 1) 4, some (15, false)⟩,
    ⟨some 17, .load (.tmp 16) 1 false .plain, some (15, false)⟩,
    ⟨some 18, .len false (.tmp 17), some (15, false)⟩,
    ⟨some 19, .bin .gtr (.tmp 18) (.const (.int .i64 300)), some (15, false)⟩,
    ⟨some 20, .pick (.tmp 15) (.const (.bool true)) (.tmp 19), none⟩] [1, 20])
  (.cond (.tmp 20)
    (.seq (.region [
      ⟨some 2, .mov (.const (.bool false)), none⟩] [2])
    .ret)
    .skip))
  (.seq (.seq (.region [
    ⟨some 3, .mov (.const (.int .i64 0)), none⟩] [1, 3])
  (.block 0
    (.loop [1, 3] c58b0)))
  (.seq (.region [
    ⟨some 2, .mov (.const (.bool true)), none⟩] [2])
  .ret))))⟩
-- laws.markMateWantS
def c71b0 : CCode := (.seq (.seq (.region [
    ⟨some 6, .mov (.tmp 5), none⟩,
    ⟨some 7, .mov (.tmp 0), none⟩,
    ⟨some 8, .len false (.tmp 7), none⟩,
    ⟨some 9, .bin .lss (.tmp 6) (.tmp 8), none⟩] [0, 1, 5, 9])
  (.cond (.tmp 9)
    .skip
    (.exit 0)))
  (.seq (.block 1
    (.seq (.region [
      ⟨some 12, .mov (.tmp 0), none⟩,
      ⟨some 13, .mov (.tmp 5), none⟩,
      ⟨some 14, .mov (.tmp 1), none⟩,
      ⟨some 15, .call 96 [false] [.tmp 14], none⟩,
      ⟨some 16, .iaddr 7 (.tmp 12) (.tmp 13), none⟩,
      ⟨some 17, .faddr (.tmp 16) 0, none⟩,
      ⟨none, .store (.tmp 17) (.tmp 15) 1, none⟩] [0, 1, 5])
    (.seq (.region [
      ⟨some 18, .mov (.tmp 1), none⟩,
      ⟨some 19, .bin .add (.tmp 18) (.const (.int .i64 1)), none⟩,
      ⟨some 1, .mov (.tmp 19), none⟩] [0, 1, 5])
    (.seq (.region [
      ⟨some 20, .mov (.tmp 0), none⟩,
      ⟨some 21, .mov (.tmp 5), none⟩,
      ⟨some 22, .mov (.tmp 1), none⟩,
      ⟨some 23, .iaddr 7 (.tmp 20) (.tmp 21), none⟩,
      ⟨some 24, .faddr (.tmp 23) 1, none⟩,
      ⟨none, .store (.tmp 24) (.tmp 22) 1, none⟩] [0, 1, 5])
    (.seq (.region [
      ⟨some 25, .mov (.tmp 1), none⟩,
      ⟨some 26, .bin .add (.tmp 25) (.const (.int .i64 1)), none⟩,
      ⟨some 1, .mov (.tmp 26), none⟩] [0, 1, 5])
    (.seq (.region [
      ⟨some 27, .mov (.tmp 0), none⟩,
      ⟨some 28, .mov (.tmp 5), none⟩,
      ⟨some 29, .mov (.tmp 1), none⟩,
      ⟨some 30, .call 96 [false] [.tmp 29], none⟩,
      ⟨some 31, .iaddr 7 (.tmp 27) (.tmp 28), none⟩,
      ⟨some 32, .faddr (.tmp 31) 2, none⟩,
      ⟨none, .store (.tmp 32) (.tmp 30) 1, none⟩] [0, 1, 5])
    (.seq (.region [
      ⟨some 33, .mov (.tmp 1), none⟩,
      ⟨some 34, .bin .add (.tmp 33) (.const (.int .i64 1)), none⟩,
      ⟨some 1, .mov (.tmp 34), none⟩] [0, 1, 5])
    (.seq (.region [
      ⟨some 35, .mov (.tmp 0), none⟩,
      ⟨some 36, .mov (.tmp 5), none⟩,
      ⟨some 37, .mov (.tmp 1), none⟩,
      ⟨some 38, .iaddr 7 (.tmp 35) (.tmp 36), none⟩,
      ⟨some 39, .faddr (.tmp 38) 3, none⟩,
      ⟨none, .store (.tmp 39) (.tmp 37) 1, none⟩] [0, 1, 5])
    (.seq (.region [
      ⟨some 40, .mov (.tmp 1), none⟩,
      ⟨some 41, .bin .add (.tmp 40) (.const (.int .i64 1)), none⟩,
      ⟨some 1, .mov (.tmp 41), none⟩] [0, 1, 5])
    (.seq (.region [
      ⟨some 42, .mov (.tmp 0), none⟩,
      ⟨some 43, .mov (.tmp 5), none⟩,
      ⟨some 44, .mov (.tmp 1), none⟩,
      ⟨some 45, .iaddr 7 (.tmp 42) (.tmp 43), none⟩,
      ⟨some 46, .faddr (.tmp 45) 4, none⟩,
      ⟨none, .store (.tmp 46) (.tmp 44) 1, none⟩] [0, 1, 5])
    (.seq (.region [
      ⟨some 47, .mov (.tmp 1), none⟩,
      ⟨some 48, .bin .add (.tmp 47) (.const (.int .i64 1)), none⟩,
      ⟨some 1, .mov (.tmp 48), none⟩] [0, 1, 5])
    (.seq (.region [
      ⟨some 49, .mov (.tmp 0), none⟩,
      ⟨some 50, .mov (.tmp 5), none⟩,
      ⟨some 51, .mov (.tmp 1), none⟩,
      ⟨some 52, .iaddr 7 (.tmp 49) (.tmp 50), none⟩,
      ⟨some 53, .faddr (.tmp 52) 5, none⟩,
      ⟨none, .store (.tmp 53) (.tmp 51) 1, none⟩] [0, 1, 5])
    (.seq (.region [
      ⟨some 54, .mov (.tmp 1), none⟩,
      ⟨some 55, .bin .add (.tmp 54) (.const (.int .i64 1)), none⟩,
      ⟨some 1, .mov (.tmp 55), none⟩] [0, 1, 5])
    (.seq (.region [
      ⟨some 56, .mov (.tmp 0), none⟩,
      ⟨some 57, .mov (.tmp 5), none⟩,
      ⟨some 58, .mov (.tmp 1), none⟩,
      ⟨some 59, .iaddr 7 (.tmp 56) (.tmp 57), none⟩,
      ⟨some 60, .faddr (.tmp 59) 6, none⟩,
      ⟨none, .store (.tmp 60) (.tmp 58) 1, none⟩] [0, 1, 5])
    (.region [
      ⟨some 61, .mov (.tmp 1), none⟩,
      ⟨some 62, .bin .add (.tmp 61) (.const (.int .i64 1)), none⟩,
      ⟨some 1, .mov (.tmp 62), none⟩] [0, 1, 5])))))))))))))))
  (.region [
    ⟨some 10, .mov (.tmp 5), none⟩,
    ⟨some 11, .bin .add (.tmp 10) (.const (.int .i64 1)), none⟩,
    ⟨some 5, .mov (.tmp 11), none⟩] [0, 1, 5])))
def c71 : CFn := ⟨64, [.tmp 4],
  (.seq (.region [
    ⟨some 4, .mov (.const (.int .i64 0)), none⟩] [0, 1])
  (.seq (.seq (.region [
    ⟨some 5, .mov (.const (.int .i64 0)), none⟩] [0, 1, 5])
  (.block 0
    (.loop [0, 1, 5] c71b0)))
  (.seq (.region [
    ⟨some 63, .mov (.tmp 1), none⟩,
    ⟨some 4, .mov (.tmp 63), none⟩] [4])
  .ret)))⟩
-- spec.l1WantOk
def c81 : CFn := ⟨41, [.tmp 2],
  (.seq (.region [
    ⟨some 1, .box (.tmp 0), none⟩,
    ⟨some 2, .mov (.const (.bool false)), none⟩] [1])
  (.seq (.region [
    ⟨some 3, .faddr (.tmp 1) 0, none⟩,
    ⟨some 4, .load (.tmp 3) 1 false .plain, none⟩,
    ⟨some 5, .call 101 [false] [.tmp 4], none⟩,
    ⟨some 6, .mov (.tmp 5), none⟩,
    ⟨some 7, .faddr (.tmp 1) 1, some (6, true)⟩,
    ⟨some 8, .load (.tmp 7) 1 false .plain, some (6, true)⟩,
    ⟨some 9, .call 102 [false, false, false] [.tmp 8, .const (.int .i64 1), .const (.int .i64 1000000)], some (6, true)⟩,
    ⟨some 10, .pick (.tmp 6) (.tmp 9) (.const (.bool false)), none⟩,
    ⟨some 11, .mov (.tmp 10), none⟩,
    ⟨some 12, .faddr (.tmp 1) 2, some (11, true)⟩,
    ⟨some 13, .load (.tmp 12) 1 false .plain, some (11, true)⟩,
    ⟨some 14, .bin .eql (.tmp 13) (.const (.str ⟨#[]⟩)), some (11, true)⟩,
    ⟨some 15, .mov (.tmp 14), some (11, true)⟩,
    ⟨some 16, .faddr (.tmp 1) 2, some (15, false)⟩,
    ⟨some 17, .load (.tmp 16) 1 false .plain, some (15, false)⟩,
    ⟨some 18, .call 100 [false] [.tmp 17], some (15, false)⟩,
    ⟨some 19, .pick (.tmp 15) (.const (.bool true)) (.tmp 18), some (11, true)⟩,
    ⟨some 20, .pick (.tmp 11) (.tmp 19) (.const (.bool false)), none⟩,
    ⟨some 21, .mov (.tmp 20), none⟩,
    ⟨some 22, .faddr (.tmp 1) 3, some (21, true)⟩,
    ⟨some 23, .load (.tmp 22) 1 false .plain, some (21, true)⟩,
    ⟨some 24, .call 102 [false, false, false] [.tmp 23, .const (.int .i64 0), .const (.int .i64 100)], some (21, true)⟩,
    ⟨some 25, .pick (.tmp 21) (.tmp 24) (.const (.bool false)), none⟩,
    ⟨some 26, .mov (.tmp 25), none⟩,
    ⟨some 27, .faddr (.tmp 1) 4, some (26, true)⟩,
    ⟨some 28, .load (.tmp 27) 1 false .plain, some (26, true)⟩,
    ⟨some 29, .call 102 [false, false, false] [.tmp 28, .const (.int .i64 0), .const (.int .i64 100)], some (26, true)⟩,
    ⟨some 30, .pick (.tmp 26) (.tmp 29) (.const (.bool false)), none⟩,
    ⟨some 31, .mov (.tmp 30), none⟩,
    ⟨some 32, .faddr (.tmp 1) 5, some (31, true)⟩,
    ⟨some 33, .load (.tmp 32) 1 false .plain, some (31, true)⟩,
    ⟨some 34, .call 102 [false, false, false] [.tmp 33, .const (.int .i64 0), .const (.int .i64 100)], some (31, true)⟩,
    ⟨some 35, .pick (.tmp 31) (.tmp 34) (.const (.bool false)), none⟩,
    ⟨some 36, .mov (.tmp 35), none⟩,
    ⟨some 37, .faddr (.tmp 1) 6, some (36, true)⟩,
    ⟨some 38, .load (.tmp 37) 1 false .plain, some (36, true)⟩,
    ⟨some 39, .call 102 [false, false, false] [.tmp 38, .const (.int .i64 0), .const (.int .i64 100)], some (36, true)⟩,
    ⟨some 40, .pick (.tmp 36) (.tmp 39) (.const (.bool false)), none⟩,
    ⟨some 2, .mov (.tmp 40), none⟩] [2])
  .ret))⟩
-- laws.eqMateWant
def c83 : CFn := ⟨40, [.tmp 4],
  (.seq (.region [
    ⟨some 2, .box (.tmp 0), none⟩,
    ⟨some 3, .box (.tmp 1), none⟩,
    ⟨some 4, .mov (.const (.bool false)), none⟩] [2, 3])
  (.seq (.seq (.region [
    ⟨some 5, .faddr (.tmp 2) 0, none⟩,
    ⟨some 6, .load (.tmp 5) 1 false .plain, none⟩,
    ⟨some 7, .faddr (.tmp 3) 0, none⟩,
    ⟨some 8, .load (.tmp 7) 1 false .plain, none⟩,
    ⟨some 9, .bin .neq (.tmp 6) (.tmp 8), none⟩] [2, 3, 9])
  (.cond (.tmp 9)
    (.seq (.region [
      ⟨some 4, .mov (.const (.bool false)), none⟩] [4])
    .ret)
    .skip))
  (.seq (.seq (.region [
    ⟨some 10, .faddr (.tmp 2) 1, none⟩,
    ⟨some 11, .load (.tmp 10) 1 false .plain, none⟩,
    ⟨some 12, .faddr (.tmp 3) 1, none⟩,
    ⟨some 13, .load (.tmp 12) 1 false .plain, none⟩,
    ⟨some 14, .bin .neq (.tmp 11) (.tmp 13), none⟩] [2, 3, 14])
  (.cond (.tmp 14)
    (.seq (.region [
      ⟨some 4, .mov (.const (.bool false)), none⟩] [4])
    .ret)
    .skip))
  (.seq (.seq (.region [
    ⟨some 15, .faddr (.tmp 2) 2, none⟩,
    ⟨some 16, .load (.tmp 15) 1 false .plain, none⟩,
    ⟨some 17, .faddr (.tmp 3) 2, none⟩,
    ⟨some 18, .load (.tmp 17) 1 false .plain, none⟩,
    ⟨some 19, .bin .neq (.tmp 16) (.tmp 18), none⟩] [2, 3, 19])
  (.cond (.tmp 19)
    (.seq (.region [
      ⟨some 4, .mov (.const (.bool false)), none⟩] [4])
    .ret)
    .skip))
  (.seq (.seq (.region [
    ⟨some 20, .faddr (.tmp 2) 3, none⟩,
    ⟨some 21, .load (.tmp 20) 1 false .plain, none⟩,
    ⟨some 22, .faddr (.tmp 3) 3, none⟩,
    ⟨some 23, .load (.tmp 22) 1 false .plain, none⟩,
    ⟨some 24, .bin .neq (.tmp 21) (.tmp 23), none⟩] [2, 3, 24])
  (.cond (.tmp 24)
    (.seq (.region [
      ⟨some 4, .mov (.const (.bool false)), none⟩] [4])
    .ret)
    .skip))
  (.seq (.seq (.region [
    ⟨some 25, .faddr (.tmp 2) 4, none⟩,
    ⟨some 26, .load (.tmp 25) 1 false .plain, none⟩,
    ⟨some 27, .faddr (.tmp 3) 4, none⟩,
    ⟨some 28, .load (.tmp 27) 1 false .plain, none⟩,
    ⟨some 29, .bin .neq (.tmp 26) (.tmp 28), none⟩] [2, 3, 29])
  (.cond (.tmp 29)
    (.seq (.region [
      ⟨some 4, .mov (.const (.bool false)), none⟩] [4])
    .ret)
    .skip))
  (.seq (.seq (.region [
    ⟨some 30, .faddr (.tmp 2) 5, none⟩,
    ⟨some 31, .load (.tmp 30) 1 false .plain, none⟩,
    ⟨some 32, .faddr (.tmp 3) 5, none⟩,
    ⟨some 33, .load (.tmp 32) 1 false .plain, none⟩,
    ⟨some 34, .bin .neq (.tmp 31) (.tmp 33), none⟩] [2, 3, 34])
  (.cond (.tmp 34)
    (.seq (.region [
      ⟨some 4, .mov (.const (.bool false)), none⟩] [4])
    .ret)
    .skip))
  (.seq (.seq (.region [
    ⟨some 35, .faddr (.tmp 2) 6, none⟩,
    ⟨some 36, .load (.tmp 35) 1 false .plain, none⟩,
    ⟨some 37, .faddr (.tmp 3) 6, none⟩,
    ⟨some 38, .load (.tmp 37) 1 false .plain, none⟩,
    ⟨some 39, .bin .neq (.tmp 36) (.tmp 38), none⟩] [39])
  (.cond (.tmp 39)
    (.seq (.region [
      ⟨some 4, .mov (.const (.bool false)), none⟩] [4])
    .ret)
    .skip))
  (.seq (.region [
    ⟨some 4, .mov (.const (.bool true)), none⟩] [4])
  .ret)))))))))⟩
-- spec.l2RunOk
def c84 : CFn := ⟨60, [.tmp 4],
  (.seq (.region [
    ⟨some 2, .box (.tmp 0), none⟩,
    ⟨some 4, .mov (.const (.bool false)), none⟩] [1, 2])
  (.seq (.seq (.region [
    ⟨some 5, .faddr (.tmp 2) 0, none⟩,
    ⟨some 6, .load (.tmp 5) 7 true .plain, none⟩,
    ⟨some 7, .call 81 [false] [.tmp 6], none⟩,
    ⟨some 8, .un .not (.tmp 7), none⟩,
    ⟨some 9, .mov (.tmp 8), none⟩,
    ⟨some 10, .faddr (.tmp 2) 7, some (9, false)⟩,
    ⟨some 11, .load (.tmp 10) 1 false .plain, some (9, false)⟩,
    ⟨some 12, .call 102 [false, false, false] [.tmp 11, .const (.int .i64 1), .const (.int .i64 6)], some (9, false)⟩,
    ⟨some 13, .un .not (.tmp 12), some (9, false)⟩,
    ⟨some 14, .pick (.tmp 9) (.const (.bool true)) (.tmp 13), none⟩,
    ⟨some 15, .mov (.tmp 14), none⟩,
    ⟨some 16, .faddr (.tmp 2) 8, some (15, false)⟩,
    ⟨some 17, .load (.tmp 16) 1 false .plain, some (15, false)⟩,
    ⟨some 18, .call 102 [false, false, false] [.tmp 17, .const (.int .i64 0), .const (.int .i64 100)], some (15, false)⟩,
    ⟨some 19, .un .not (.tmp 18), some (15, false)⟩,
    ⟨some 20, .pick (.tmp 15) (.const (.bool true)) (.tmp 19), none⟩,
    ⟨some 21, .mov (.tmp 20), none⟩,
    ⟨some 22, .faddr (.tmp 2) 7, some (21, false)⟩,
    ⟨some 23, .load (.tmp 22) 1 false .plain, some (21, false)⟩,
    ⟨some 24, .bin .eql (.tmp 23) (.const (.int .i64 2)), some (21, false)⟩,
    ⟨some 25, .mov (.tmp 24), some (21, false)⟩,
    ⟨some 26, .faddr (.tmp 2) 8, some (25, true)⟩,
    ⟨some 27, .load (.tmp 26) 1 false .plain, some (25, true)⟩,
    ⟨some 28, .bin .neq (.tmp 27) (.const (.int .i64 0)), some (25, true)⟩,
    ⟨some 29, .pick (.tmp 25) (.tmp 28) (.const (.bool false)), some (21, false)⟩,
    ⟨some 30, .pick (.tmp 21) (.const (.bool true)) (.tmp 29), none⟩,
    ⟨some 31, .mov (.tmp 30), none⟩,
    ⟨some 32, .faddr (.tmp 2) 9, some (31, false)⟩,
    ⟨some 33, .load (.tmp 32) 1 false .plain, some (31, false)⟩,
    ⟨some 34, .call 102 [false, false, false] [.tmp 33, .const (.int .i64 0), .const (.int .i64 1000)], some (31, false)⟩,
    ⟨some 35, .un .not (.tmp 34), some (31, false)⟩,
    ⟨some 36, .pick (.tmp 31) (.const (.bool true)) (.tmp 35), none⟩] [1, 2, 36])
  (.cond (.tmp 36)
    (.seq (.region [
      ⟨some 4, .mov (.const (.bool false)), none⟩] [4])
    .ret)
    .skip))
  (.seq (.seq (.region [
    ⟨some 37, .faddr (.tmp 2) 10, none⟩,
    ⟨some 38, .load (.tmp 37) 1 false .plain, none⟩,
    ⟨some 39, .call 102 [false, false, false] [.tmp 38, .const (.int .i64 0), .const (.int .i64 1000016)], none⟩,
    ⟨some 40, .un .not (.tmp 39), none⟩,
    ⟨some 41, .mov (.tmp 40), none⟩,
    ⟨some 42, .faddr (.tmp 2) 0, some (41, false)⟩,
    ⟨some 43, .faddr (.tmp 42) 2, some (41, false)⟩,
    ⟨some 44, .load (.tmp 43) 1 false .plain, some (41, false)⟩,
    ⟨some 45, .bin .eql (.tmp 44) (.const (.str ⟨#[]⟩)), some (41, false)⟩,
    ⟨some 46, .mov (.tmp 45), some (41, false)⟩,
    ⟨some 47, .faddr (.tmp 2) 10, some (46, true)⟩,
    ⟨some 48, .load (.tmp 47) 1 false .plain, some (46, true)⟩,
    ⟨some 49, .bin .neq (.tmp 48) (.const (.int .i64 0)), some (46, true)⟩,
    ⟨some 50, .pick (.tmp 46) (.tmp 49) (.const (.bool false)), some (41, false)⟩,
    ⟨some 51, .pick (.tmp 41) (.const (.bool true)) (.tmp 50), none⟩] [1, 2, 51])
  (.cond (.tmp 51)
    (.seq (.region [
      ⟨some 4, .mov (.const (.bool false)), none⟩] [4])
    .ret)
    .skip))
  (.seq (.region [
    ⟨some 52, .load (.tmp 2) 11 true .plain, none⟩,
    ⟨some 53, .call 2 [false] [.tmp 52], none⟩,
    ⟨some 54, .un .not (.tmp 53), none⟩,
    ⟨some 55, .mov (.tmp 54), none⟩,
    ⟨some 56, .load (.tmp 2) 11 true .plain, some (55, false)⟩,
    ⟨some 57, .mov (.tmp 1), some (55, false)⟩,
    ⟨some 58, .call 95 [false, false] [.tmp 56, .tmp 57], some (55, false)⟩,
    ⟨some 59, .pick (.tmp 55) (.const (.bool true)) (.tmp 58), none⟩,
    ⟨some 4, .mov (.tmp 59), none⟩] [4])
  .ret))))⟩
-- laws.eqMateRun
def c86 : CFn := ⟨31, [.tmp 4],
  (.seq (.region [
    ⟨some 2, .box (.tmp 0), none⟩,
    ⟨some 3, .box (.tmp 1), none⟩,
    ⟨some 4, .mov (.const (.bool false)), none⟩] [2, 3])
  (.seq (.seq (.region [
    ⟨some 5, .faddr (.tmp 2) 0, none⟩,
    ⟨some 6, .load (.tmp 5) 7 true .plain, none⟩,
    ⟨some 7, .faddr (.tmp 3) 0, none⟩,
    ⟨some 8, .load (.tmp 7) 7 true .plain, none⟩,
    ⟨some 9, .call 83 [false, false] [.tmp 6, .tmp 8], none⟩,
    ⟨some 10, .un .not (.tmp 9), none⟩] [2, 3, 10])
  (.cond (.tmp 10)
    (.seq (.region [
      ⟨some 4, .mov (.const (.bool false)), none⟩] [4])
    .ret)
    .skip))
  (.seq (.seq (.region [
    ⟨some 11, .faddr (.tmp 2) 7, none⟩,
    ⟨some 12, .load (.tmp 11) 1 false .plain, none⟩,
    ⟨some 13, .faddr (.tmp 3) 7, none⟩,
    ⟨some 14, .load (.tmp 13) 1 false .plain, none⟩,
    ⟨some 15, .bin .neq (.tmp 12) (.tmp 14), none⟩] [2, 3, 15])
  (.cond (.tmp 15)
    (.seq (.region [
      ⟨some 4, .mov (.const (.bool false)), none⟩] [4])
    .ret)
    .skip))
  (.seq (.seq (.region [
    ⟨some 16, .faddr (.tmp 2) 8, none⟩,
    ⟨some 17, .load (.tmp 16) 1 false .plain, none⟩,
    ⟨some 18, .faddr (.tmp 3) 8, none⟩,
    ⟨some 19, .load (.tmp 18) 1 false .plain, none⟩,
    ⟨some 20, .bin .neq (.tmp 17) (.tmp 19), none⟩] [2, 3, 20])
  (.cond (.tmp 20)
    (.seq (.region [
      ⟨some 4, .mov (.const (.bool false)), none⟩] [4])
    .ret)
    .skip))
  (.seq (.seq (.region [
    ⟨some 21, .faddr (.tmp 2) 9, none⟩,
    ⟨some 22, .load (.tmp 21) 1 false .plain, none⟩,
    ⟨some 23, .faddr (.tmp 3) 9, none⟩,
    ⟨some 24, .load (.tmp 23) 1 false .plain, none⟩,
    ⟨some 25, .bin .neq (.tmp 22) (.tmp 24), none⟩] [2, 3, 25])
  (.cond (.tmp 25)
    (.seq (.region [
      ⟨some 4, .mov (.const (.bool false)), none⟩] [4])
    .ret)
    .skip))
  (.seq (.seq (.region [
    ⟨some 26, .faddr (.tmp 2) 10, none⟩,
    ⟨some 27, .load (.tmp 26) 1 false .plain, none⟩,
    ⟨some 28, .faddr (.tmp 3) 10, none⟩,
    ⟨some 29, .load (.tmp 28) 1 false .plain, none⟩,
    ⟨some 30, .bin .neq (.tmp 27) (.tmp 29), none⟩] [30])
  (.cond (.tmp 30)
    (.seq (.region [
      ⟨some 4, .mov (.const (.bool false)), none⟩] [4])
    .ret)
    .skip))
  (.seq (.region [
    ⟨some 4, .mov (.const (.bool true)), none⟩] [4])
  .ret)))))))⟩
-- spec.l2Leased
def c95 : CFn := ⟨16, [.tmp 4],
  (.seq (.region [
    ⟨some 2, .box (.tmp 0), none⟩,
    ⟨some 4, .mov (.const (.bool false)), none⟩] [1, 2])
  (.seq (.region [
    ⟨some 5, .faddr (.tmp 2) 0, none⟩,
    ⟨some 6, .faddr (.tmp 5) 2, none⟩,
    ⟨some 7, .load (.tmp 6) 1 false .plain, none⟩,
    ⟨some 8, .bin .eql (.tmp 7) (.const (.str ⟨#[]⟩)), none⟩,
    ⟨some 9, .mov (.tmp 8), none⟩,
    ⟨some 10, .faddr (.tmp 2) 10, some (9, false)⟩,
    ⟨some 11, .load (.tmp 10) 1 false .plain, some (9, false)⟩,
    ⟨some 12, .mov (.tmp 1), some (9, false)⟩,
    ⟨some 13, .bin .add (.tmp 12) (.const (.int .i64 4)), some (9, false)⟩,
    ⟨some 14, .bin .geq (.tmp 11) (.tmp 13), some (9, false)⟩,
    ⟨some 15, .pick (.tmp 9) (.const (.bool true)) (.tmp 14), none⟩,
    ⟨some 4, .mov (.tmp 15), none⟩] [4])
  .ret))⟩
-- laws.markText
def c96b0 : CCode := (.seq (.seq (.region [
    ⟨some 6, .mov (.tmp 0), none⟩,
    ⟨some 7, .bin .gtr (.tmp 6) (.const (.int .i64 0)), none⟩] [0, 3, 7])
  (.cond (.tmp 7)
    .skip
    (.exit 0)))
  (.block 1
    (.seq (.region [
      ⟨some 8, .mov (.tmp 0), none⟩,
      ⟨some 9, .bin .rem (.tmp 8) (.const (.int .i64 10)), none⟩,
      ⟨some 10, .bin .add (.const (.int .i64 48)) (.tmp 9), none⟩,
      ⟨some 11, .conv .u8 (.tmp 10), none⟩,
      ⟨some 12, .bslice 1 [.int .u8 0] 1 [(0, .tmp 11)], none⟩,
      ⟨some 13, .toStr (.tmp 12), none⟩,
      ⟨some 14, .mov (.tmp 3), none⟩,
      ⟨some 15, .bin .add (.tmp 13) (.tmp 14), none⟩,
      ⟨some 3, .mov (.tmp 15), none⟩] [0, 3])
    (.region [
      ⟨some 16, .mov (.tmp 0), none⟩,
      ⟨some 17, .bin .quo (.tmp 16) (.const (.int .i64 10)), none⟩,
      ⟨some 0, .mov (.tmp 17), none⟩] [0, 3]))))
def c96 : CFn := ⟨20, [.tmp 2],
  (.seq (.region [
    ⟨some 2, .mov (.const (.str ⟨#[]⟩)), none⟩] [0])
  (.seq (.seq (.region [
    ⟨some 4, .mov (.tmp 0), none⟩,
    ⟨some 5, .bin .leq (.tmp 4) (.const (.int .i64 0)), none⟩] [0, 5])
  (.cond (.tmp 5)
    (.seq (.region [
      ⟨some 2, .mov (.const (.str ⟨#[109, 48]⟩)), none⟩] [2])
    .ret)
    .skip))
  (.seq (.region [
    ⟨some 3, .mov (.const (.str ⟨#[]⟩)), none⟩] [0, 3])
  (.seq (.block 0
    (.loop [0, 3] c96b0))
  (.seq (.region [
    ⟨some 18, .mov (.tmp 3), none⟩,
    ⟨some 19, .bin .add (.const (.str ⟨#[109]⟩)) (.tmp 18), none⟩,
    ⟨some 2, .mov (.tmp 19), none⟩] [2])
  .ret)))))⟩
-- spec.l6PlacesOk
def c99b0 : CCode := (.seq (.seq (.region [
    ⟨some 64, .mov (.tmp 7), none⟩,
    ⟨some 65, .mov (.tmp 0), none⟩,
    ⟨some 66, .mov (.tmp 5), none⟩,
    ⟨some 67, .iaddr 3 (.tmp 65) (.tmp 66), none⟩,
    ⟨some 68, .faddr (.tmp 67) 2, none⟩,
    ⟨some 69, .load (.tmp 68) 1 false .plain, none⟩,
    ⟨some 70, .len false (.tmp 69), none⟩,
    ⟨some 71, .bin .lss (.tmp 64) (.tmp 70), none⟩] [0, 3, 4, 5, 6, 7, 71])
  (.cond (.tmp 71)
    .skip
    (.exit 6)))
  (.seq (.block 7
    (.seq (.quiet [
      ⟨some 74, .faddr (.tmp 4) 2, none⟩,
      ⟨some 75, .load (.tmp 74) 1 false .plain, none⟩,
      ⟨some 76, .mov (.tmp 6), none⟩,
      ⟨some 77, .iaddr 7 (.tmp 75) (.tmp 76), none⟩,
      ⟨some 78, .faddr (.tmp 77) 2, none⟩,
      ⟨some 79, .load (.tmp 78) 1 false .plain, none⟩,
      ⟨some 80, .bin .neq (.tmp 79) (.const (.str ⟨#[]⟩)), none⟩,
      ⟨some 81, .mov (.tmp 80), none⟩,
      ⟨some 82, .faddr (.tmp 4) 2, some (81, true)⟩,
      ⟨some 83, .load (.tmp 82) 1 false .plain, some (81, true)⟩,
      ⟨some 84, .mov (.tmp 6), some (81, true)⟩,
      ⟨some 85, .iaddr 7 (.tmp 83) (.tmp 84), some (81, true)⟩,
      ⟨some 86, .faddr (.tmp 85) 2, some (81, true)⟩,
      ⟨some 87, .load (.tmp 86) 1 false .plain, some (81, true)⟩,
      ⟨some 88, .mov (.tmp 0), some (81, true)⟩,
      ⟨some 89, .mov (.tmp 5), some (81, true)⟩,
      ⟨some 90, .iaddr 3 (.tmp 88) (.tmp 89), some (81, true)⟩,
      ⟨some 91, .faddr (.tmp 90) 2, some (81, true)⟩,
      ⟨some 92, .load (.tmp 91) 1 false .plain, some (81, true)⟩,
      ⟨some 93, .mov (.tmp 7), some (81, true)⟩,
      ⟨some 94, .iaddr 7 (.tmp 92) (.tmp 93), some (81, true)⟩,
      ⟨some 95, .faddr (.tmp 94) 2, some (81, true)⟩,
      ⟨some 96, .load (.tmp 95) 1 false .plain, some (81, true)⟩,
      ⟨some 97, .bin .eql (.tmp 87) (.tmp 96), some (81, true)⟩,
      ⟨some 98, .pick (.tmp 81) (.tmp 97) (.const (.bool false)), none⟩] [0, 3, 4, 5, 6, 7, 98])
    (.cond (.tmp 98)
      (.seq (.region [
        ⟨some 2, .mov (.const (.bool false)), none⟩] [2])
      .ret)
      .skip)))
  (.region [
    ⟨some 72, .mov (.tmp 7), none⟩,
    ⟨some 73, .bin .add (.tmp 72) (.const (.int .i64 1)), none⟩,
    ⟨some 7, .mov (.tmp 73), none⟩] [0, 3, 4, 5, 6, 7])))
def c99b1 : CCode := (.seq (.seq (.region [
    ⟨some 57, .mov (.tmp 6), none⟩,
    ⟨some 58, .faddr (.tmp 4) 2, none⟩,
    ⟨some 59, .load (.tmp 58) 1 false .plain, none⟩,
    ⟨some 60, .len false (.tmp 59), none⟩,
    ⟨some 61, .bin .lss (.tmp 57) (.tmp 60), none⟩] [0, 3, 4, 5, 6, 61])
  (.cond (.tmp 61)
    .skip
    (.exit 4)))
  (.seq (.block 5
    (.seq (.region [
      ⟨some 7, .mov (.const (.int .i64 0)), none⟩] [0, 3, 4, 5, 6, 7])
    (.block 6
      (.loop [0, 3, 4, 5, 6, 7] c99b0))))
  (.region [
    ⟨some 62, .mov (.tmp 6), none⟩,
    ⟨some 63, .bin .add (.tmp 62) (.const (.int .i64 1)), none⟩,
    ⟨some 6, .mov (.tmp 63), none⟩] [0, 3, 4, 5, 6])))
def c99b2 : CCode := (.seq (.seq (.region [
    ⟨some 52, .mov (.tmp 5), none⟩,
    ⟨some 53, .mov (.tmp 3), none⟩,
    ⟨some 54, .bin .lss (.tmp 52) (.tmp 53), none⟩] [0, 3, 4, 5, 54])
  (.cond (.tmp 54)
    .skip
    (.exit 2)))
  (.seq (.block 3
    (.seq (.region [
      ⟨some 6, .mov (.const (.int .i64 0)), none⟩] [0, 3, 4, 5, 6])
    (.block 4
      (.loop [0, 3, 4, 5, 6] c99b1))))
  (.region [
    ⟨some 55, .mov (.tmp 5), none⟩,
    ⟨some 56, .bin .add (.tmp 55) (.const (.int .i64 1)), none⟩,
    ⟨some 5, .mov (.tmp 56), none⟩] [0, 3, 4, 5])))
def c99b3 : CCode := (.seq (.seq (.region [
    ⟨some 11, .mov (.tmp 3), none⟩,
    ⟨some 12, .mov (.tmp 0), none⟩,
    ⟨some 13, .len false (.tmp 12), none⟩,
    ⟨some 14, .bin .lss (.tmp 11) (.tmp 13), none⟩] [0, 3, 14])
  (.cond (.tmp 14)
    .skip
    (.exit 0)))
  (.seq (.block 1
    (.seq (.region [
      ⟨some 17, .mov (.tmp 0), none⟩,
      ⟨some 18, .mov (.tmp 3), none⟩,
      ⟨some 19, .iaddr 3 (.tmp 17) (.tmp 18), none⟩,
      ⟨some 20, .load (.tmp 19) 3 true .plain, none⟩,
      ⟨some 4, .alloc [.str ⟨#[]⟩, .int .i64 0, .sl .own 7 []], none⟩,
      ⟨none, .store (.tmp 4) (.tmp 20) 3, none⟩] [0, 3, 4])
    (.seq (.seq (.quiet [
      ⟨some 21, .faddr (.tmp 4) 0, none⟩,
      ⟨some 22, .load (.tmp 21) 1 false .plain, none⟩,
      ⟨some 23, .call 101 [false] [.tmp 22], none⟩,
      ⟨some 24, .un .not (.tmp 23), none⟩,
      ⟨some 25, .mov (.tmp 24), none⟩,
      ⟨some 26, .faddr (.tmp 4) 1, some (25, false)⟩,
      ⟨some 27, .load (.tmp 26) 1 false .plain, some (25, false)⟩,
      ⟨some 28, .call 102 [false, false, false] [.tmp 27, .const (.int .i64 1), .const (.int .i64 1000000)], some (25, false)⟩,
      ⟨some 29, .un .not (.tmp 28), some (25, false)⟩,
      ⟨some 30, .pick (.tmp 25) (.const (.bool true)) (.tmp 29), none⟩,
      ⟨some 31, .mov (.tmp 30), none⟩,
      ⟨some 32, .faddr (.tmp 4) 2, some (31, false)⟩,
      ⟨some 33, .load (.tmp 32) 1 false .plain, some (31, false)⟩,
      ⟨some 34, .call 7 [false] [.tmp 33], some (31, false)⟩,
      ⟨some 35, .un .not (.tmp 34), some (31, false)⟩,
      ⟨some 36, .pick (.tmp 31) (.const (.bool true)) (.tmp 35), none⟩,
      ⟨some 37, .mov (.tmp 36), none⟩,
      ⟨some 38, .mov (.tmp 3), some (37, false)⟩,
      ⟨some 39, .bin .gtr (.tmp 38) (.const (.int .i64 0)), some (37, false)⟩,
      ⟨some 40, .mov (.tmp 39), some (37, false)⟩,
      ⟨some 41, .mov (.tmp 0), some (40, true)⟩,
      ⟨some 42, .mov (.tmp 3), some (40, true)⟩,
      ⟨some 43, .bin .sub (.tmp 42) (.const (.int .i64 1)), some (40, true)⟩,
      ⟨some 44, .iaddr 3 (.tmp 41) (.tmp 43), some (40, true)⟩,
      ⟨some 45, .faddr (.tmp 44) 0, some (40, true)⟩,
      ⟨some 46, .load (.tmp 45) 1 false .plain, some (40, true)⟩,
      ⟨some 47, .faddr (.tmp 4) 0, some (40, true)⟩,
      ⟨some 48, .load (.tmp 47) 1 false .plain, some (40, true)⟩,
      ⟨some 49, .bin .geq (.tmp 46) (.tmp 48), some (40, true)⟩,
      ⟨some 50, .pick (.tmp 40) (.tmp 49) (.const (.bool false)), some (37, false)⟩,
      ⟨some 51, .pick (.tmp 37) (.const (.bool true)) (.tmp 50), none⟩] [0, 3, 4, 51])
    (.cond (.tmp 51)
      (.seq (.region [
        ⟨some 2, .mov (.const (.bool false)), none⟩] [2])
      .ret)
      .skip))
    (.seq (.region [
      ⟨some 5, .mov (.const (.int .i64 0)), none⟩] [0, 3, 4, 5])
    (.block 2
      (.loop [0, 3, 4, 5] c99b2))))))
  (.region [
    ⟨some 15, .mov (.tmp 3), none⟩,
    ⟨some 16, .bin .add (.tmp 15) (.const (.int .i64 1)), none⟩,
    ⟨some 3, .mov (.tmp 16), none⟩] [0, 3])))
def c99 : CFn := ⟨99, [.tmp 2],
  (.seq (.region [
    ⟨some 2, .mov (.const (.bool false)), none⟩] [0])
  (.seq (.seq (.region [
    ⟨some 8, .mov (.tmp 0), none⟩,
    ⟨some 9, .len false (.tmp 8), none⟩,
    ⟨some 10, .bin .gtr (.tmp 9) (.const (.int .i64 4)), none⟩] [0, 10])
  (.cond (.tmp 10)
    (.seq (.region [
      ⟨some 2, .mov (.const (.bool false)), none⟩] [2])
    .ret)
    .skip))
  (.seq (.seq (.region [
    ⟨some 3, .mov (.const (.int .i64 0)), none⟩] [0, 3])
  (.block 0
    (.loop [0, 3] c99b3)))
  (.seq (.region [
    ⟨some 2, .mov (.const (.bool true)), none⟩] [2])
  .ret))))⟩
-- spec.l1HoldOk
def c100 : CFn := ⟨9, [.tmp 2],
  (.seq (.region [
    ⟨some 2, .mov (.const (.bool false)), none⟩] [0])
  (.seq (.region [
    ⟨some 3, .mov (.tmp 0), none⟩,
    ⟨some 4, .call 101 [false] [.tmp 3], none⟩,
    ⟨some 5, .mov (.tmp 4), none⟩,
    ⟨some 6, .mov (.tmp 0), some (5, true)⟩,
    ⟨some 7, .bin .neq (.tmp 6) (.const (.str ⟨#[42]⟩)), some (5, true)⟩,
    ⟨some 8, .pick (.tmp 5) (.tmp 7) (.const (.bool false)), none⟩,
    ⟨some 2, .mov (.tmp 8), none⟩] [2])
  .ret))⟩
-- spec.l1NameOk
def c101b0 : CCode := (.seq (.seq (.region [
    ⟨some 8, .mov (.tmp 3), none⟩,
    ⟨some 9, .mov (.tmp 0), none⟩,
    ⟨some 10, .len true (.tmp 9), none⟩,
    ⟨some 11, .bin .lss (.tmp 8) (.tmp 10), none⟩] [0, 3, 11])
  (.cond (.tmp 11)
    .skip
    (.exit 0)))
  (.seq (.block 1
    (.seq (.region [
      ⟨some 14, .mov (.tmp 0), none⟩,
      ⟨some 15, .mov (.tmp 3), none⟩,
      ⟨some 16, .sidx (.tmp 14) (.tmp 15), none⟩,
      ⟨some 17, .bin .lss (.tmp 16) (.const (.int .u8 33)), none⟩,
      ⟨some 18, .mov (.tmp 17), none⟩,
      ⟨some 19, .mov (.tmp 0), some (18, false)⟩,
      ⟨some 20, .mov (.tmp 3), some (18, false)⟩,
      ⟨some 21, .sidx (.tmp 19) (.tmp 20), some (18, false)⟩,
      ⟨some 22, .bin .gtr (.tmp 21) (.const (.int .u8 126)), some (18, false)⟩,
      ⟨some 23, .pick (.tmp 18) (.const (.bool true)) (.tmp 22), none⟩] [0, 3, 23])
    (.cond (.tmp 23)
      (.seq (.region [
        ⟨some 2, .mov (.const (.bool false)), none⟩] [2])
      .ret)
      .skip)))
  (.region [
    ⟨some 12, .mov (.tmp 3), none⟩,
    ⟨some 13, .bin .add (.tmp 12) (.const (.int .i64 1)), none⟩,
    ⟨some 3, .mov (.tmp 13), none⟩] [0, 3])))
def c101 : CFn := ⟨24, [.tmp 2],
  (.seq (.region [
    ⟨some 2, .mov (.const (.bool false)), none⟩] [0])
  (.seq (.seq (.region [
    ⟨some 4, .mov (.tmp 0), none⟩,
    ⟨some 5, .len true (.tmp 4), none⟩,
    ⟨some 6, .call 102 [false, false, false] [.tmp 5, .const (.int .i64 1), .const (.int .i64 20)], none⟩,
    ⟨some 7, .un .not (.tmp 6), none⟩] [0, 7])
  (.cond (.tmp 7)
    (.seq (.region [
      ⟨some 2, .mov (.const (.bool false)), none⟩] [2])
    .ret)
    .skip))
  (.seq (.seq (.region [
    ⟨some 3, .mov (.const (.int .i64 0)), none⟩] [0, 3])
  (.block 0
    (.loop [0, 3] c101b0)))
  (.seq (.region [
    ⟨some 2, .mov (.const (.bool true)), none⟩] [2])
  .ret))))⟩
-- spec.l1In
def c102 : CFn := ⟨15, [.tmp 6],
  (.seq (.region [
    ⟨some 6, .mov (.const (.bool false)), none⟩] [0, 1, 2])
  (.seq (.region [
    ⟨some 7, .mov (.tmp 0), none⟩,
    ⟨some 8, .mov (.tmp 1), none⟩,
    ⟨some 9, .bin .geq (.tmp 7) (.tmp 8), none⟩,
    ⟨some 10, .mov (.tmp 9), none⟩,
    ⟨some 11, .mov (.tmp 0), some (10, true)⟩,
    ⟨some 12, .mov (.tmp 2), some (10, true)⟩,
    ⟨some 13, .bin .leq (.tmp 11) (.tmp 12), some (10, true)⟩,
    ⟨some 14, .pick (.tmp 10) (.tmp 13) (.const (.bool false)), none⟩,
    ⟨some 6, .mov (.tmp 14), none⟩] [6])
  .ret))⟩
-- impl.isName
def c105b0 : CCode := (.seq (.region [
    ⟨some 15, .bin .lss (.tmp 14) (.tmp 13), none⟩] [0, 13, 14, 15])
  (.seq (.cond (.tmp 15)
    .skip
    (.exit 0))
  (.seq (.block 1
    (.seq (.region [
      ⟨some 16, .mov (.tmp 14), none⟩,
      ⟨some 3, .mov (.tmp 16), none⟩] [0, 3, 13, 14])
    (.seq (.region [
      ⟨some 17, .mov (.tmp 0), none⟩,
      ⟨some 18, .mov (.tmp 3), none⟩,
      ⟨some 19, .sidx (.tmp 17) (.tmp 18), none⟩,
      ⟨some 20, .bin .lss (.tmp 19) (.const (.int .u8 33)), none⟩,
      ⟨some 21, .mov (.tmp 20), none⟩,
      ⟨some 22, .mov (.tmp 0), some (21, false)⟩,
      ⟨some 23, .mov (.tmp 3), some (21, false)⟩,
      ⟨some 24, .sidx (.tmp 22) (.tmp 23), some (21, false)⟩,
      ⟨some 25, .bin .gtr (.tmp 24) (.const (.int .u8 126)), some (21, false)⟩,
      ⟨some 26, .pick (.tmp 21) (.const (.bool true)) (.tmp 25), none⟩] [0, 13, 14, 26])
    (.cond (.tmp 26)
      (.seq (.region [
        ⟨some 2, .mov (.const (.bool false)), none⟩] [2])
      .ret)
      .skip))))
  (.region [
    ⟨some 27, .bin .add (.tmp 14) (.const (.int .i64 1)), none⟩,
    ⟨some 14, .mov (.tmp 27), none⟩] [0, 13, 14]))))
def c105 : CFn := ⟨28, [.tmp 2],
  (.seq (.region [
    ⟨some 2, .mov (.const (.bool false)), none⟩] [0])
  (.seq (.seq (.region [
    ⟨some 4, .mov (.tmp 0), none⟩,
    ⟨some 5, .len true (.tmp 4), none⟩,
    ⟨some 6, .bin .lss (.tmp 5) (.const (.int .i64 1)), none⟩,
    ⟨some 7, .mov (.tmp 6), none⟩,
    ⟨some 8, .mov (.tmp 0), some (7, false)⟩,
    ⟨some 9, .len true (.tmp 8), some (7, false)⟩,
    ⟨some 10, .bin .gtr (.tmp 9) (.const (.int .i64 20)), some (7, false)⟩,
    ⟨some 11, .pick (.tmp 7) (.const (.bool true)) (.tmp 10), none⟩] [0, 11])
  (.cond (.tmp 11)
    (.seq (.region [
      ⟨some 2, .mov (.const (.bool false)), none⟩] [2])
    .ret)
    .skip))
  (.seq (.seq (.region [
    ⟨some 12, .mov (.tmp 0), none⟩,
    ⟨some 13, .len true (.tmp 12), none⟩,
    ⟨some 14, .mov (.const (.int .i64 0)), none⟩] [0, 13, 14])
  (.block 0
    (.loop [0, 13, 14] c105b0)))
  (.seq (.region [
    ⟨some 2, .mov (.const (.bool true)), none⟩] [2])
  .ret))))⟩
-- laws.eqMatePlaceS
def c107b0 : CCode := (.seq (.seq (.region [
    ⟨some 11, .mov (.tmp 5), none⟩,
    ⟨some 12, .mov (.tmp 0), none⟩,
    ⟨some 13, .len false (.tmp 12), none⟩,
    ⟨some 14, .bin .lss (.tmp 11) (.tmp 13), none⟩] [0, 1, 5, 14])
  (.cond (.tmp 14)
    .skip
    (.exit 0)))
  (.seq (.block 1
    (.seq (.quiet [
      ⟨some 17, .mov (.tmp 0), none⟩,
      ⟨some 18, .mov (.tmp 5), none⟩,
      ⟨some 19, .iaddr 3 (.tmp 17) (.tmp 18), none⟩,
      ⟨some 20, .load (.tmp 19) 3 true .plain, none⟩,
      ⟨some 21, .mov (.tmp 1), none⟩,
      ⟨some 22, .mov (.tmp 5), none⟩,
      ⟨some 23, .iaddr 3 (.tmp 21) (.tmp 22), none⟩,
      ⟨some 24, .load (.tmp 23) 3 true .plain, none⟩,
      ⟨some 25, .call 151 [false, false] [.tmp 20, .tmp 24], none⟩,
      ⟨some 26, .un .not (.tmp 25), none⟩] [0, 1, 5, 26])
    (.cond (.tmp 26)
      (.seq (.region [
        ⟨some 4, .mov (.const (.bool false)), none⟩] [4])
      .ret)
      .skip)))
  (.region [
    ⟨some 15, .mov (.tmp 5), none⟩,
    ⟨some 16, .bin .add (.tmp 15) (.const (.int .i64 1)), none⟩,
    ⟨some 5, .mov (.tmp 16), none⟩] [0, 1, 5])))
def c107 : CFn := ⟨27, [.tmp 4],
  (.seq (.region [
    ⟨some 4, .mov (.const (.bool false)), none⟩] [0, 1])
  (.seq (.seq (.region [
    ⟨some 6, .mov (.tmp 0), none⟩,
    ⟨some 7, .len false (.tmp 6), none⟩,
    ⟨some 8, .mov (.tmp 1), none⟩,
    ⟨some 9, .len false (.tmp 8), none⟩,
    ⟨some 10, .bin .neq (.tmp 7) (.tmp 9), none⟩] [0, 1, 10])
  (.cond (.tmp 10)
    (.seq (.region [
      ⟨some 4, .mov (.const (.bool false)), none⟩] [4])
    .ret)
    .skip))
  (.seq (.seq (.region [
    ⟨some 5, .mov (.const (.int .i64 0)), none⟩] [0, 1, 5])
  (.block 0
    (.loop [0, 1, 5] c107b0)))
  (.seq (.region [
    ⟨some 4, .mov (.const (.bool true)), none⟩] [4])
  .ret))))⟩
-- laws.eqMateGrantS
def c108b0 : CCode := (.seq (.seq (.region [
    ⟨some 11, .mov (.tmp 5), none⟩,
    ⟨some 12, .mov (.tmp 0), none⟩,
    ⟨some 13, .len false (.tmp 12), none⟩,
    ⟨some 14, .bin .lss (.tmp 11) (.tmp 13), none⟩] [0, 1, 5, 14])
  (.cond (.tmp 14)
    .skip
    (.exit 0)))
  (.seq (.block 1
    (.seq (.quiet [
      ⟨some 17, .mov (.tmp 0), none⟩,
      ⟨some 18, .mov (.tmp 5), none⟩,
      ⟨some 19, .iaddr 5 (.tmp 17) (.tmp 18), none⟩,
      ⟨some 20, .load (.tmp 19) 5 true .plain, none⟩,
      ⟨some 21, .mov (.tmp 1), none⟩,
      ⟨some 22, .mov (.tmp 5), none⟩,
      ⟨some 23, .iaddr 5 (.tmp 21) (.tmp 22), none⟩,
      ⟨some 24, .load (.tmp 23) 5 true .plain, none⟩,
      ⟨some 25, .call 150 [false, false] [.tmp 20, .tmp 24], none⟩,
      ⟨some 26, .un .not (.tmp 25), none⟩] [0, 1, 5, 26])
    (.cond (.tmp 26)
      (.seq (.region [
        ⟨some 4, .mov (.const (.bool false)), none⟩] [4])
      .ret)
      .skip)))
  (.region [
    ⟨some 15, .mov (.tmp 5), none⟩,
    ⟨some 16, .bin .add (.tmp 15) (.const (.int .i64 1)), none⟩,
    ⟨some 5, .mov (.tmp 16), none⟩] [0, 1, 5])))
def c108 : CFn := ⟨27, [.tmp 4],
  (.seq (.region [
    ⟨some 4, .mov (.const (.bool false)), none⟩] [0, 1])
  (.seq (.seq (.region [
    ⟨some 6, .mov (.tmp 0), none⟩,
    ⟨some 7, .len false (.tmp 6), none⟩,
    ⟨some 8, .mov (.tmp 1), none⟩,
    ⟨some 9, .len false (.tmp 8), none⟩,
    ⟨some 10, .bin .neq (.tmp 7) (.tmp 9), none⟩] [0, 1, 10])
  (.cond (.tmp 10)
    (.seq (.region [
      ⟨some 4, .mov (.const (.bool false)), none⟩] [4])
    .ret)
    .skip))
  (.seq (.seq (.region [
    ⟨some 5, .mov (.const (.int .i64 0)), none⟩] [0, 1, 5])
  (.block 0
    (.loop [0, 1, 5] c108b0)))
  (.seq (.region [
    ⟨some 4, .mov (.const (.bool true)), none⟩] [4])
  .ret))))⟩
-- spec.l4Ask
def c110b0 : CCode := (.seq (.seq (.region [
    ⟨some 6, .mov (.tmp 5), none⟩,
    ⟨some 7, .mov (.tmp 0), none⟩,
    ⟨some 8, .len false (.tmp 7), none⟩,
    ⟨some 9, .bin .lss (.tmp 6) (.tmp 8), none⟩] [0, 1, 5, 9])
  (.cond (.tmp 9)
    .skip
    (.exit 0)))
  (.seq (.block 1
    (.seq (.region [
      ⟨some 12, .mov (.tmp 0), none⟩,
      ⟨some 13, .mov (.tmp 5), none⟩,
      ⟨some 14, .iaddr 4 (.tmp 12) (.tmp 13), none⟩,
      ⟨some 15, .faddr (.tmp 14) 0, none⟩,
      ⟨some 16, .load (.tmp 15) 1 false .plain, none⟩,
      ⟨some 17, .mov (.tmp 1), none⟩,
      ⟨some 18, .bin .eql (.tmp 16) (.tmp 17), none⟩] [0, 1, 5, 18])
    (.cond (.tmp 18)
      (.seq (.region [
        ⟨some 19, .mov (.tmp 5), none⟩,
        ⟨some 4, .mov (.tmp 19), none⟩] [4])
      .ret)
      .skip)))
  (.region [
    ⟨some 10, .mov (.tmp 5), none⟩,
    ⟨some 11, .bin .add (.tmp 10) (.const (.int .i64 1)), none⟩,
    ⟨some 5, .mov (.tmp 11), none⟩] [0, 1, 5])))
def c110 : CFn := ⟨20, [.tmp 4],
  (.seq (.region [
    ⟨some 4, .mov (.const (.int .i64 0)), none⟩] [0, 1])
  (.seq (.seq (.region [
    ⟨some 5, .mov (.const (.int .i64 0)), none⟩] [0, 1, 5])
  (.block 0
    (.loop [0, 1, 5] c110b0)))
  (.seq (.region [
    ⟨some 4, .mov (.const (.int .i64 (-1))), none⟩] [4])
  .ret)))⟩
-- spec.l4AsksOk
def c111b0 : CCode := (.seq (.seq (.region [
    ⟨some 10, .mov (.tmp 5), none⟩,
    ⟨some 11, .mov (.tmp 0), none⟩,
    ⟨some 12, .len false (.tmp 11), none⟩,
    ⟨some 13, .bin .lss (.tmp 10) (.tmp 12), none⟩] [0, 1, 5, 13])
  (.cond (.tmp 13)
    .skip
    (.exit 0)))
  (.seq (.block 1
    (.seq (.region [
      ⟨some 16, .mov (.tmp 0), none⟩,
      ⟨some 17, .mov (.tmp 5), none⟩,
      ⟨some 18, .iaddr 4 (.tmp 16) (.tmp 17), none⟩,
      ⟨some 19, .load (.tmp 18) 4 true .plain, none⟩,
      ⟨some 6, .alloc [.str ⟨#[]⟩, .str ⟨#[]⟩, .int .i64 0, .int .i64 0], none⟩,
      ⟨none, .store (.tmp 6) (.tmp 19) 4, none⟩] [0, 1, 5, 6])
    (.seq (.quiet [
      ⟨some 20, .faddr (.tmp 6) 0, none⟩,
      ⟨some 21, .load (.tmp 20) 1 false .plain, none⟩,
      ⟨some 22, .call 100 [false] [.tmp 21], none⟩,
      ⟨some 23, .un .not (.tmp 22), none⟩,
      ⟨some 24, .mov (.tmp 23), none⟩,
      ⟨some 25, .faddr (.tmp 6) 1, some (24, false)⟩,
      ⟨some 26, .load (.tmp 25) 1 false .plain, some (24, false)⟩,
      ⟨some 27, .call 101 [false] [.tmp 26], some (24, false)⟩,
      ⟨some 28, .un .not (.tmp 27), some (24, false)⟩,
      ⟨some 29, .pick (.tmp 24) (.const (.bool true)) (.tmp 28), none⟩,
      ⟨some 30, .mov (.tmp 29), none⟩,
      ⟨some 31, .faddr (.tmp 6) 3, some (30, false)⟩,
      ⟨some 32, .load (.tmp 31) 1 false .plain, some (30, false)⟩,
      ⟨some 33, .mov (.tmp 1), some (30, false)⟩,
      ⟨some 34, .call 102 [false, false, false] [.tmp 32, .const (.int .i64 0), .tmp 33], some (30, false)⟩,
      ⟨some 35, .un .not (.tmp 34), some (30, false)⟩,
      ⟨some 36, .pick (.tmp 30) (.const (.bool true)) (.tmp 35), none⟩,
      ⟨some 37, .mov (.tmp 36), none⟩,
      ⟨some 38, .faddr (.tmp 6) 2, some (37, false)⟩,
      ⟨some 39, .load (.tmp 38) 1 false .plain, some (37, false)⟩,
      ⟨some 40, .faddr (.tmp 6) 3, some (37, false)⟩,
      ⟨some 41, .load (.tmp 40) 1 false .plain, some (37, false)⟩,
      ⟨some 42, .call 102 [false, false, false] [.tmp 39, .const (.int .i64 0), .tmp 41], some (37, false)⟩,
      ⟨some 43, .un .not (.tmp 42), some (37, false)⟩,
      ⟨some 44, .pick (.tmp 37) (.const (.bool true)) (.tmp 43), none⟩,
      ⟨some 45, .mov (.tmp 44), none⟩,
      ⟨some 46, .mov (.tmp 5), some (45, false)⟩,
      ⟨some 47, .bin .gtr (.tmp 46) (.const (.int .i64 0)), some (45, false)⟩,
      ⟨some 48, .mov (.tmp 47), some (45, false)⟩,
      ⟨some 49, .mov (.tmp 0), some (48, true)⟩,
      ⟨some 50, .mov (.tmp 5), some (48, true)⟩,
      ⟨some 51, .bin .sub (.tmp 50) (.const (.int .i64 1)), some (48, true)⟩,
      ⟨some 52, .iaddr 4 (.tmp 49) (.tmp 51), some (48, true)⟩,
      ⟨some 53, .faddr (.tmp 52) 0, some (48, true)⟩,
      ⟨some 54, .load (.tmp 53) 1 false .plain, some (48, true)⟩,
      ⟨some 55, .faddr (.tmp 6) 0, some (48, true)⟩,
      ⟨some 56, .load (.tmp 55) 1 false .plain, some (48, true)⟩,
      ⟨some 57, .bin .geq (.tmp 54) (.tmp 56), some (48, true)⟩,
      ⟨some 58, .pick (.tmp 48) (.tmp 57) (.const (.bool false)), some (45, false)⟩,
      ⟨some 59, .pick (.tmp 45) (.const (.bool true)) (.tmp 58), none⟩] [0, 1, 5, 59])
    (.cond (.tmp 59)
      (.seq (.region [
        ⟨some 4, .mov (.const (.bool false)), none⟩] [4])
      .ret)
      .skip))))
  (.region [
    ⟨some 14, .mov (.tmp 5), none⟩,
    ⟨some 15, .bin .add (.tmp 14) (.const (.int .i64 1)), none⟩,
    ⟨some 5, .mov (.tmp 15), none⟩] [0, 1, 5])))
def c111 : CFn := ⟨60, [.tmp 4],
  (.seq (.region [
    ⟨some 4, .mov (.const (.bool false)), none⟩] [0, 1])
  (.seq (.seq (.region [
    ⟨some 7, .mov (.tmp 0), none⟩,
    ⟨some 8, .len false (.tmp 7), none⟩,
    ⟨some 9, .bin .gtr (.tmp 8) (.const (.int .i64 40)), none⟩] [0, 1, 9])
  (.cond (.tmp 9)
    (.seq (.region [
      ⟨some 4, .mov (.const (.bool false)), none⟩] [4])
    .ret)
    .skip))
  (.seq (.seq (.region [
    ⟨some 5, .mov (.const (.int .i64 0)), none⟩] [0, 1, 5])
  (.block 0
    (.loop [0, 1, 5] c111b0)))
  (.seq (.region [
    ⟨some 4, .mov (.const (.bool true)), none⟩] [4])
  .ret))))⟩
-- laws.eqMateAskS
def c115b0 : CCode := (.seq (.seq (.region [
    ⟨some 11, .mov (.tmp 5), none⟩,
    ⟨some 12, .mov (.tmp 0), none⟩,
    ⟨some 13, .len false (.tmp 12), none⟩,
    ⟨some 14, .bin .lss (.tmp 11) (.tmp 13), none⟩] [0, 1, 5, 14])
  (.cond (.tmp 14)
    .skip
    (.exit 0)))
  (.seq (.block 1
    (.seq (.quiet [
      ⟨some 17, .mov (.tmp 0), none⟩,
      ⟨some 18, .mov (.tmp 5), none⟩,
      ⟨some 19, .iaddr 4 (.tmp 17) (.tmp 18), none⟩,
      ⟨some 20, .load (.tmp 19) 4 true .plain, none⟩,
      ⟨some 21, .mov (.tmp 1), none⟩,
      ⟨some 22, .mov (.tmp 5), none⟩,
      ⟨some 23, .iaddr 4 (.tmp 21) (.tmp 22), none⟩,
      ⟨some 24, .load (.tmp 23) 4 true .plain, none⟩,
      ⟨some 25, .call 154 [false, false] [.tmp 20, .tmp 24], none⟩,
      ⟨some 26, .un .not (.tmp 25), none⟩] [0, 1, 5, 26])
    (.cond (.tmp 26)
      (.seq (.region [
        ⟨some 4, .mov (.const (.bool false)), none⟩] [4])
      .ret)
      .skip)))
  (.region [
    ⟨some 15, .mov (.tmp 5), none⟩,
    ⟨some 16, .bin .add (.tmp 15) (.const (.int .i64 1)), none⟩,
    ⟨some 5, .mov (.tmp 16), none⟩] [0, 1, 5])))
def c115 : CFn := ⟨27, [.tmp 4],
  (.seq (.region [
    ⟨some 4, .mov (.const (.bool false)), none⟩] [0, 1])
  (.seq (.seq (.region [
    ⟨some 6, .mov (.tmp 0), none⟩,
    ⟨some 7, .len false (.tmp 6), none⟩,
    ⟨some 8, .mov (.tmp 1), none⟩,
    ⟨some 9, .len false (.tmp 8), none⟩,
    ⟨some 10, .bin .neq (.tmp 7) (.tmp 9), none⟩] [0, 1, 10])
  (.cond (.tmp 10)
    (.seq (.region [
      ⟨some 4, .mov (.const (.bool false)), none⟩] [4])
    .ret)
    .skip))
  (.seq (.seq (.region [
    ⟨some 5, .mov (.const (.int .i64 0)), none⟩] [0, 1, 5])
  (.block 0
    (.loop [0, 1, 5] c115b0)))
  (.seq (.region [
    ⟨some 4, .mov (.const (.bool true)), none⟩] [4])
  .ret))))⟩
-- laws.markMatePlaceS
def c123b0 : CCode := (.seq (.seq (.region [
    ⟨some 6, .mov (.tmp 5), none⟩,
    ⟨some 7, .mov (.tmp 0), none⟩,
    ⟨some 8, .len false (.tmp 7), none⟩,
    ⟨some 9, .bin .lss (.tmp 6) (.tmp 8), none⟩] [0, 1, 5, 9])
  (.cond (.tmp 9)
    .skip
    (.exit 0)))
  (.seq (.block 1
    (.seq (.region [
      ⟨some 12, .mov (.tmp 0), none⟩,
      ⟨some 13, .mov (.tmp 5), none⟩,
      ⟨some 14, .mov (.tmp 1), none⟩,
      ⟨some 15, .call 96 [false] [.tmp 14], none⟩,
      ⟨some 16, .iaddr 3 (.tmp 12) (.tmp 13), none⟩,
      ⟨some 17, .faddr (.tmp 16) 0, none⟩,
      ⟨none, .store (.tmp 17) (.tmp 15) 1, none⟩] [0, 1, 5])
    (.seq (.region [
      ⟨some 18, .mov (.tmp 1), none⟩,
      ⟨some 19, .bin .add (.tmp 18) (.const (.int .i64 1)), none⟩,
      ⟨some 1, .mov (.tmp 19), none⟩] [0, 1, 5])
    (.seq (.region [
      ⟨some 20, .mov (.tmp 0), none⟩,
      ⟨some 21, .mov (.tmp 5), none⟩,
      ⟨some 22, .mov (.tmp 1), none⟩,
      ⟨some 23, .iaddr 3 (.tmp 20) (.tmp 21), none⟩,
      ⟨some 24, .faddr (.tmp 23) 1, none⟩,
      ⟨none, .store (.tmp 24) (.tmp 22) 1, none⟩] [0, 1, 5])
    (.seq (.region [
      ⟨some 25, .mov (.tmp 1), none⟩,
      ⟨some 26, .bin .add (.tmp 25) (.const (.int .i64 1)), none⟩,
      ⟨some 1, .mov (.tmp 26), none⟩] [0, 1, 5])
    (.region [
      ⟨some 27, .mov (.tmp 0), none⟩,
      ⟨some 28, .mov (.tmp 5), none⟩,
      ⟨some 29, .iaddr 3 (.tmp 27) (.tmp 28), none⟩,
      ⟨some 30, .faddr (.tmp 29) 2, none⟩,
      ⟨some 31, .load (.tmp 30) 1 false .share, none⟩,
      ⟨some 32, .mov (.tmp 1), none⟩,
      ⟨some 33, .callin 71 (.tmp 31) [.tmp 32], none⟩,
      ⟨some 1, .mov (.tmp 33), none⟩] [0, 1, 5]))))))
  (.region [
    ⟨some 10, .mov (.tmp 5), none⟩,
    ⟨some 11, .bin .add (.tmp 10) (.const (.int .i64 1)), none⟩,
    ⟨some 5, .mov (.tmp 11), none⟩] [0, 1, 5])))
def c123 : CFn := ⟨35, [.tmp 4],
  (.seq (.region [
    ⟨some 4, .mov (.const (.int .i64 0)), none⟩] [0, 1])
  (.seq (.seq (.region [
    ⟨some 5, .mov (.const (.int .i64 0)), none⟩] [0, 1, 5])
  (.block 0
    (.loop [0, 1, 5] c123b0)))
  (.seq (.region [
    ⟨some 34, .mov (.tmp 1), none⟩,
    ⟨some 4, .mov (.tmp 34), none⟩] [4])
  .ret)))⟩
-- laws.markMateGrantS
def c124b0 : CCode := (.seq (.seq (.region [
    ⟨some 6, .mov (.tmp 5), none⟩,
    ⟨some 7, .mov (.tmp 0), none⟩,
    ⟨some 8, .len false (.tmp 7), none⟩,
    ⟨some 9, .bin .lss (.tmp 6) (.tmp 8), none⟩] [0, 1, 5, 9])
  (.cond (.tmp 9)
    .skip
    (.exit 0)))
  (.seq (.block 1
    (.seq (.region [
      ⟨some 12, .mov (.tmp 0), none⟩,
      ⟨some 13, .mov (.tmp 5), none⟩,
      ⟨some 14, .mov (.tmp 1), none⟩,
      ⟨some 15, .call 96 [false] [.tmp 14], none⟩,
      ⟨some 16, .iaddr 5 (.tmp 12) (.tmp 13), none⟩,
      ⟨some 17, .faddr (.tmp 16) 0, none⟩,
      ⟨none, .store (.tmp 17) (.tmp 15) 1, none⟩] [0, 1, 5])
    (.seq (.region [
      ⟨some 18, .mov (.tmp 1), none⟩,
      ⟨some 19, .bin .add (.tmp 18) (.const (.int .i64 1)), none⟩,
      ⟨some 1, .mov (.tmp 19), none⟩] [0, 1, 5])
    (.seq (.region [
      ⟨some 20, .mov (.tmp 0), none⟩,
      ⟨some 21, .mov (.tmp 5), none⟩,
      ⟨some 22, .mov (.tmp 1), none⟩,
      ⟨some 23, .call 96 [false] [.tmp 22], none⟩,
      ⟨some 24, .iaddr 5 (.tmp 20) (.tmp 21), none⟩,
      ⟨some 25, .faddr (.tmp 24) 1, none⟩,
      ⟨none, .store (.tmp 25) (.tmp 23) 1, none⟩] [0, 1, 5])
    (.seq (.region [
      ⟨some 26, .mov (.tmp 1), none⟩,
      ⟨some 27, .bin .add (.tmp 26) (.const (.int .i64 1)), none⟩,
      ⟨some 1, .mov (.tmp 27), none⟩] [0, 1, 5])
    (.seq (.region [
      ⟨some 28, .mov (.tmp 0), none⟩,
      ⟨some 29, .mov (.tmp 5), none⟩,
      ⟨some 30, .mov (.tmp 1), none⟩,
      ⟨some 31, .call 96 [false] [.tmp 30], none⟩,
      ⟨some 32, .iaddr 5 (.tmp 28) (.tmp 29), none⟩,
      ⟨some 33, .faddr (.tmp 32) 2, none⟩,
      ⟨none, .store (.tmp 33) (.tmp 31) 1, none⟩] [0, 1, 5])
    (.seq (.region [
      ⟨some 34, .mov (.tmp 1), none⟩,
      ⟨some 35, .bin .add (.tmp 34) (.const (.int .i64 1)), none⟩,
      ⟨some 1, .mov (.tmp 35), none⟩] [0, 1, 5])
    (.seq (.region [
      ⟨some 36, .mov (.tmp 0), none⟩,
      ⟨some 37, .mov (.tmp 5), none⟩,
      ⟨some 38, .mov (.tmp 1), none⟩,
      ⟨some 39, .iaddr 5 (.tmp 36) (.tmp 37), none⟩,
      ⟨some 40, .faddr (.tmp 39) 3, none⟩,
      ⟨none, .store (.tmp 40) (.tmp 38) 1, none⟩] [0, 1, 5])
    (.seq (.region [
      ⟨some 41, .mov (.tmp 1), none⟩,
      ⟨some 42, .bin .add (.tmp 41) (.const (.int .i64 1)), none⟩,
      ⟨some 1, .mov (.tmp 42), none⟩] [0, 1, 5])
    (.seq (.region [
      ⟨some 43, .mov (.tmp 0), none⟩,
      ⟨some 44, .mov (.tmp 5), none⟩,
      ⟨some 45, .mov (.tmp 1), none⟩,
      ⟨some 46, .iaddr 5 (.tmp 43) (.tmp 44), none⟩,
      ⟨some 47, .faddr (.tmp 46) 4, none⟩,
      ⟨none, .store (.tmp 47) (.tmp 45) 1, none⟩] [0, 1, 5])
    (.region [
      ⟨some 48, .mov (.tmp 1), none⟩,
      ⟨some 49, .bin .add (.tmp 48) (.const (.int .i64 1)), none⟩,
      ⟨some 1, .mov (.tmp 49), none⟩] [0, 1, 5])))))))))))
  (.region [
    ⟨some 10, .mov (.tmp 5), none⟩,
    ⟨some 11, .bin .add (.tmp 10) (.const (.int .i64 1)), none⟩,
    ⟨some 5, .mov (.tmp 11), none⟩] [0, 1, 5])))
def c124 : CFn := ⟨51, [.tmp 4],
  (.seq (.region [
    ⟨some 4, .mov (.const (.int .i64 0)), none⟩] [0, 1])
  (.seq (.seq (.region [
    ⟨some 5, .mov (.const (.int .i64 0)), none⟩] [0, 1, 5])
  (.block 0
    (.loop [0, 1, 5] c124b0)))
  (.seq (.region [
    ⟨some 50, .mov (.tmp 1), none⟩,
    ⟨some 4, .mov (.tmp 50), none⟩] [4])
  .ret)))⟩
-- laws.heldMatePlaceS
def c125b0 : CCode := (.seq (.seq (.region [
    ⟨some 6, .mov (.tmp 5), none⟩,
    ⟨some 7, .mov (.tmp 0), none⟩,
    ⟨some 8, .len false (.tmp 7), none⟩,
    ⟨some 9, .bin .lss (.tmp 6) (.tmp 8), none⟩] [0, 1, 5, 9])
  (.cond (.tmp 9)
    .skip
    (.exit 0)))
  (.seq (.block 1
    (.seq (.seq (.quiet [
      ⟨some 12, .mov (.tmp 0), none⟩,
      ⟨some 13, .mov (.tmp 5), none⟩,
      ⟨some 14, .iaddr 3 (.tmp 12) (.tmp 13), none⟩,
      ⟨some 15, .faddr (.tmp 14) 0, none⟩,
      ⟨some 16, .load (.tmp 15) 1 false .plain, none⟩,
      ⟨some 17, .mov (.tmp 1), none⟩,
      ⟨some 18, .call 96 [false] [.tmp 17], none⟩,
      ⟨some 19, .bin .neq (.tmp 16) (.tmp 18), none⟩] [0, 1, 5, 19])
    (.cond (.tmp 19)
      (.seq (.region [
        ⟨some 4, .mov (.const (.int .i64 (-1))), none⟩] [4])
      .ret)
      .skip))
    (.seq (.region [
      ⟨some 20, .mov (.tmp 1), none⟩,
      ⟨some 21, .bin .add (.tmp 20) (.const (.int .i64 1)), none⟩,
      ⟨some 1, .mov (.tmp 21), none⟩] [0, 1, 5])
    (.seq (.seq (.region [
      ⟨some 22, .mov (.tmp 0), none⟩,
      ⟨some 23, .mov (.tmp 5), none⟩,
      ⟨some 24, .iaddr 3 (.tmp 22) (.tmp 23), none⟩,
      ⟨some 25, .faddr (.tmp 24) 1, none⟩,
      ⟨some 26, .load (.tmp 25) 1 false .plain, none⟩,
      ⟨some 27, .mov (.tmp 1), none⟩,
      ⟨some 28, .bin .neq (.tmp 26) (.tmp 27), none⟩] [0, 1, 5, 28])
    (.cond (.tmp 28)
      (.seq (.region [
        ⟨some 4, .mov (.const (.int .i64 (-1))), none⟩] [4])
      .ret)
      .skip))
    (.seq (.region [
      ⟨some 29, .mov (.tmp 1), none⟩,
      ⟨some 30, .bin .add (.tmp 29) (.const (.int .i64 1)), none⟩,
      ⟨some 1, .mov (.tmp 30), none⟩] [0, 1, 5])
    (.seq (.region [
      ⟨some 31, .mov (.tmp 0), none⟩,
      ⟨some 32, .mov (.tmp 5), none⟩,
      ⟨some 33, .iaddr 3 (.tmp 31) (.tmp 32), none⟩,
      ⟨some 34, .faddr (.tmp 33) 2, none⟩,
      ⟨some 35, .load (.tmp 34) 1 false .plain, none⟩,
      ⟨some 36, .mov (.tmp 1), none⟩,
      ⟨some 37, .call 127 [false, false] [.tmp 35, .tmp 36], none⟩,
      ⟨some 1, .mov (.tmp 37), none⟩] [0, 1, 5])
    (.seq (.region [
      ⟨some 38, .mov (.tmp 1), none⟩,
      ⟨some 39, .bin .lss (.tmp 38) (.const (.int .i64 0)), none⟩] [0, 1, 5, 39])
    (.cond (.tmp 39)
      (.seq (.region [
        ⟨some 4, .mov (.const (.int .i64 (-1))), none⟩] [4])
      .ret)
      .skip))))))))
  (.region [
    ⟨some 10, .mov (.tmp 5), none⟩,
    ⟨some 11, .bin .add (.tmp 10) (.const (.int .i64 1)), none⟩,
    ⟨some 5, .mov (.tmp 11), none⟩] [0, 1, 5])))
def c125 : CFn := ⟨41, [.tmp 4],
  (.seq (.region [
    ⟨some 4, .mov (.const (.int .i64 0)), none⟩] [0, 1])
  (.seq (.seq (.region [
    ⟨some 5, .mov (.const (.int .i64 0)), none⟩] [0, 1, 5])
  (.block 0
    (.loop [0, 1, 5] c125b0)))
  (.seq (.region [
    ⟨some 40, .mov (.tmp 1), none⟩,
    ⟨some 4, .mov (.tmp 40), none⟩] [4])
  .ret)))⟩
-- laws.heldMateGrantS
def c126b0 : CCode := (.seq (.seq (.region [
    ⟨some 6, .mov (.tmp 5), none⟩,
    ⟨some 7, .mov (.tmp 0), none⟩,
    ⟨some 8, .len false (.tmp 7), none⟩,
    ⟨some 9, .bin .lss (.tmp 6) (.tmp 8), none⟩] [0, 1, 5, 9])
  (.cond (.tmp 9)
    .skip
    (.exit 0)))
  (.seq (.block 1
    (.seq (.seq (.quiet [
      ⟨some 12, .mov (.tmp 0), none⟩,
      ⟨some 13, .mov (.tmp 5), none⟩,
      ⟨some 14, .iaddr 5 (.tmp 12) (.tmp 13), none⟩,
      ⟨some 15, .faddr (.tmp 14) 0, none⟩,
      ⟨some 16, .load (.tmp 15) 1 false .plain, none⟩,
      ⟨some 17, .mov (.tmp 1), none⟩,
      ⟨some 18, .call 96 [false] [.tmp 17], none⟩,
      ⟨some 19, .bin .neq (.tmp 16) (.tmp 18), none⟩] [0, 1, 5, 19])
    (.cond (.tmp 19)
      (.seq (.region [
        ⟨some 4, .mov (.const (.int .i64 (-1))), none⟩] [4])
      .ret)
      .skip))
    (.seq (.region [
      ⟨some 20, .mov (.tmp 1), none⟩,
      ⟨some 21, .bin .add (.tmp 20) (.const (.int .i64 1)), none⟩,
      ⟨some 1, .mov (.tmp 21), none⟩] [0, 1, 5])
    (.seq (.seq (.quiet [
      ⟨some 22, .mov (.tmp 0), none⟩,
      ⟨some 23, .mov (.tmp 5), none⟩,
      ⟨some 24, .iaddr 5 (.tmp 22) (.tmp 23), none⟩,
      ⟨some 25, .faddr (.tmp 24) 1, none⟩,
      ⟨some 26, .load (.tmp 25) 1 false .plain, none⟩,
      ⟨some 27, .mov (.tmp 1), none⟩,
      ⟨some 28, .call 96 [false] [.tmp 27], none⟩,
      ⟨some 29, .bin .neq (.tmp 26) (.tmp 28), none⟩] [0, 1, 5, 29])
    (.cond (.tmp 29)
      (.seq (.region [
        ⟨some 4, .mov (.const (.int .i64 (-1))), none⟩] [4])
      .ret)
      .skip))
    (.seq (.region [
      ⟨some 30, .mov (.tmp 1), none⟩,
      ⟨some 31, .bin .add (.tmp 30) (.const (.int .i64 1)), none⟩,
      ⟨some 1, .mov (.tmp 31), none⟩] [0, 1, 5])
    (.seq (.seq (.quiet [
      ⟨some 32, .mov (.tmp 0), none⟩,
      ⟨some 33, .mov (.tmp 5), none⟩,
      ⟨some 34, .iaddr 5 (.tmp 32) (.tmp 33), none⟩,
      ⟨some 35, .faddr (.tmp 34) 2, none⟩,
      ⟨some 36, .load (.tmp 35) 1 false .plain, none⟩,
      ⟨some 37, .mov (.tmp 1), none⟩,
      ⟨some 38, .call 96 [false] [.tmp 37], none⟩,
      ⟨some 39, .bin .neq (.tmp 36) (.tmp 38), none⟩] [0, 1, 5, 39])
    (.cond (.tmp 39)
      (.seq (.region [
        ⟨some 4, .mov (.const (.int .i64 (-1))), none⟩] [4])
      .ret)
      .skip))
    (.seq (.region [
      ⟨some 40, .mov (.tmp 1), none⟩,
      ⟨some 41, .bin .add (.tmp 40) (.const (.int .i64 1)), none⟩,
      ⟨some 1, .mov (.tmp 41), none⟩] [0, 1, 5])
    (.seq (.seq (.region [
      ⟨some 42, .mov (.tmp 0), none⟩,
      ⟨some 43, .mov (.tmp 5), none⟩,
      ⟨some 44, .iaddr 5 (.tmp 42) (.tmp 43), none⟩,
      ⟨some 45, .faddr (.tmp 44) 3, none⟩,
      ⟨some 46, .load (.tmp 45) 1 false .plain, none⟩,
      ⟨some 47, .mov (.tmp 1), none⟩,
      ⟨some 48, .bin .neq (.tmp 46) (.tmp 47), none⟩] [0, 1, 5, 48])
    (.cond (.tmp 48)
      (.seq (.region [
        ⟨some 4, .mov (.const (.int .i64 (-1))), none⟩] [4])
      .ret)
      .skip))
    (.seq (.region [
      ⟨some 49, .mov (.tmp 1), none⟩,
      ⟨some 50, .bin .add (.tmp 49) (.const (.int .i64 1)), none⟩,
      ⟨some 1, .mov (.tmp 50), none⟩] [0, 1, 5])
    (.seq (.seq (.region [
      ⟨some 51, .mov (.tmp 0), none⟩,
      ⟨some 52, .mov (.tmp 5), none⟩,
      ⟨some 53, .iaddr 5 (.tmp 51) (.tmp 52), none⟩,
      ⟨some 54, .faddr (.tmp 53) 4, none⟩,
      ⟨some 55, .load (.tmp 54) 1 false .plain, none⟩,
      ⟨some 56, .mov (.tmp 1), none⟩,
      ⟨some 57, .bin .neq (.tmp 55) (.tmp 56), none⟩] [0, 1, 5, 57])
    (.cond (.tmp 57)
      (.seq (.region [
        ⟨some 4, .mov (.const (.int .i64 (-1))), none⟩] [4])
      .ret)
      .skip))
    (.region [
      ⟨some 58, .mov (.tmp 1), none⟩,
      ⟨some 59, .bin .add (.tmp 58) (.const (.int .i64 1)), none⟩,
      ⟨some 1, .mov (.tmp 59), none⟩] [0, 1, 5])))))))))))
  (.region [
    ⟨some 10, .mov (.tmp 5), none⟩,
    ⟨some 11, .bin .add (.tmp 10) (.const (.int .i64 1)), none⟩,
    ⟨some 5, .mov (.tmp 11), none⟩] [0, 1, 5])))
def c126 : CFn := ⟨61, [.tmp 4],
  (.seq (.region [
    ⟨some 4, .mov (.const (.int .i64 0)), none⟩] [0, 1])
  (.seq (.seq (.region [
    ⟨some 5, .mov (.const (.int .i64 0)), none⟩] [0, 1, 5])
  (.block 0
    (.loop [0, 1, 5] c126b0)))
  (.seq (.region [
    ⟨some 60, .mov (.tmp 1), none⟩,
    ⟨some 4, .mov (.tmp 60), none⟩] [4])
  .ret)))⟩
-- laws.heldMateWantS
def c127b0 : CCode := (.seq (.seq (.region [
    ⟨some 6, .mov (.tmp 5), none⟩,
    ⟨some 7, .mov (.tmp 0), none⟩,
    ⟨some 8, .len false (.tmp 7), none⟩,
    ⟨some 9, .bin .lss (.tmp 6) (.tmp 8), none⟩] [0, 1, 5, 9])
  (.cond (.tmp 9)
    .skip
    (.exit 0)))
  (.seq (.block 1
    (.seq (.seq (.quiet [
      ⟨some 12, .mov (.tmp 0), none⟩,
      ⟨some 13, .mov (.tmp 5), none⟩,
      ⟨some 14, .iaddr 7 (.tmp 12) (.tmp 13), none⟩,
      ⟨some 15, .faddr (.tmp 14) 0, none⟩,
      ⟨some 16, .load (.tmp 15) 1 false .plain, none⟩,
      ⟨some 17, .mov (.tmp 1), none⟩,
      ⟨some 18, .call 96 [false] [.tmp 17], none⟩,
      ⟨some 19, .bin .neq (.tmp 16) (.tmp 18), none⟩] [0, 1, 5, 19])
    (.cond (.tmp 19)
      (.seq (.region [
        ⟨some 4, .mov (.const (.int .i64 (-1))), none⟩] [4])
      .ret)
      .skip))
    (.seq (.region [
      ⟨some 20, .mov (.tmp 1), none⟩,
      ⟨some 21, .bin .add (.tmp 20) (.const (.int .i64 1)), none⟩,
      ⟨some 1, .mov (.tmp 21), none⟩] [0, 1, 5])
    (.seq (.seq (.region [
      ⟨some 22, .mov (.tmp 0), none⟩,
      ⟨some 23, .mov (.tmp 5), none⟩,
      ⟨some 24, .iaddr 7 (.tmp 22) (.tmp 23), none⟩,
      ⟨some 25, .faddr (.tmp 24) 1, none⟩,
      ⟨some 26, .load (.tmp 25) 1 false .plain, none⟩,
      ⟨some 27, .mov (.tmp 1), none⟩,
      ⟨some 28, .bin .neq (.tmp 26) (.tmp 27), none⟩] [0, 1, 5, 28])
    (.cond (.tmp 28)
      (.seq (.region [
        ⟨some 4, .mov (.const (.int .i64 (-1))), none⟩] [4])
      .ret)
      .skip))
    (.seq (.region [
      ⟨some 29, .mov (.tmp 1), none⟩,
      ⟨some 30, .bin .add (.tmp 29) (.const (.int .i64 1)), none⟩,
      ⟨some 1, .mov (.tmp 30), none⟩] [0, 1, 5])
    (.seq (.seq (.quiet [
      ⟨some 31, .mov (.tmp 0), none⟩,
      ⟨some 32, .mov (.tmp 5), none⟩,
      ⟨some 33, .iaddr 7 (.tmp 31) (.tmp 32), none⟩,
      ⟨some 34, .faddr (.tmp 33) 2, none⟩,
      ⟨some 35, .load (.tmp 34) 1 false .plain, none⟩,
      ⟨some 36, .mov (.tmp 1), none⟩,
      ⟨some 37, .call 96 [false] [.tmp 36], none⟩,
      ⟨some 38, .bin .neq (.tmp 35) (.tmp 37), none⟩] [0, 1, 5, 38])
    (.cond (.tmp 38)
      (.seq (.region [
        ⟨some 4, .mov (.const (.int .i64 (-1))), none⟩] [4])
      .ret)
      .skip))
    (.seq (.region [
      ⟨some 39, .mov (.tmp 1), none⟩,
      ⟨some 40, .bin .add (.tmp 39) (.const (.int .i64 1)), none⟩,
      ⟨some 1, .mov (.tmp 40), none⟩] [0, 1, 5])
    (.seq (.seq (.region [
      ⟨some 41, .mov (.tmp 0), none⟩,
      ⟨some 42, .mov (.tmp 5), none⟩,
      ⟨some 43, .iaddr 7 (.tmp 41) (.tmp 42), none⟩,
      ⟨some 44, .faddr (.tmp 43) 3, none⟩,
      ⟨some 45, .load (.tmp 44) 1 false .plain, none⟩,
      ⟨some 46, .mov (.tmp 1), none⟩,
      ⟨some 47, .bin .neq (.tmp 45) (.tmp 46), none⟩] [0, 1, 5, 47])
    (.cond (.tmp 47)
      (.seq (.region [
        ⟨some 4, .mov (.const (.int .i64 (-1))), none⟩] [4])
      .ret)
      .skip))
    (.seq (.region [
      ⟨some 48, .mov (.tmp 1), none⟩,
      ⟨some 49, .bin .add (.tmp 48) (.const (.int .i64 1)), none⟩,
      ⟨some 1, .mov (.tmp 49), none⟩] [0, 1, 5])
    (.seq (.seq (.region [
      ⟨some 50, .mov (.tmp 0), none⟩,
      ⟨some 51, .mov (.tmp 5), none⟩,
      ⟨some 52, .iaddr 7 (.tmp 50) (.tmp 51), none⟩,
      ⟨some 53, .faddr (.tmp 52) 4, none⟩,
      ⟨some 54, .load (.tmp 53) 1 false .plain, none⟩,
      ⟨some 55, .mov (.tmp 1), none⟩,
      ⟨some 56, .bin .neq (.tmp 54) (.tmp 55), none⟩] [0, 1, 5, 56])
    (.cond (.tmp 56)
      (.seq (.region [
        ⟨some 4, .mov (.const (.int .i64 (-1))), none⟩] [4])
      .ret)
      .skip))
    (.seq (.region [
      ⟨some 57, .mov (.tmp 1), none⟩,
      ⟨some 58, .bin .add (.tmp 57) (.const (.int .i64 1)), none⟩,
      ⟨some 1, .mov (.tmp 58), none⟩] [0, 1, 5])
    (.seq (.seq (.region [
      ⟨some 59, .mov (.tmp 0), none⟩,
      ⟨some 60, .mov (.tmp 5), none⟩,
      ⟨some 61, .iaddr 7 (.tmp 59) (.tmp 60), none⟩,
      ⟨some 62, .faddr (.tmp 61) 5, none⟩,
      ⟨some 63, .load (.tmp 62) 1 false .plain, none⟩,
      ⟨some 64, .mov (.tmp 1), none⟩,
      ⟨some 65, .bin .neq (.tmp 63) (.tmp 64), none⟩] [0, 1, 5, 65])
    (.cond (.tmp 65)
      (.seq (.region [
        ⟨some 4, .mov (.const (.int .i64 (-1))), none⟩] [4])
      .ret)
      .skip))
    (.seq (.region [
      ⟨some 66, .mov (.tmp 1), none⟩,
      ⟨some 67, .bin .add (.tmp 66) (.const (.int .i64 1)), none⟩,
      ⟨some 1, .mov (.tmp 67), none⟩] [0, 1, 5])
    (.seq (.seq (.region [
      ⟨some 68, .mov (.tmp 0), none⟩,
      ⟨some 69, .mov (.tmp 5), none⟩,
      ⟨some 70, .iaddr 7 (.tmp 68) (.tmp 69), none⟩,
      ⟨some 71, .faddr (.tmp 70) 6, none⟩,
      ⟨some 72, .load (.tmp 71) 1 false .plain, none⟩,
      ⟨some 73, .mov (.tmp 1), none⟩,
      ⟨some 74, .bin .neq (.tmp 72) (.tmp 73), none⟩] [0, 1, 5, 74])
    (.cond (.tmp 74)
      (.seq (.region [
        ⟨some 4, .mov (.const (.int .i64 (-1))), none⟩] [4])
      .ret)
      .skip))
    (.region [
      ⟨some 75, .mov (.tmp 1), none⟩,
      ⟨some 76, .bin .add (.tmp 75) (.const (.int .i64 1)), none⟩,
      ⟨some 1, .mov (.tmp 76), none⟩] [0, 1, 5])))))))))))))))
  (.region [
    ⟨some 10, .mov (.tmp 5), none⟩,
    ⟨some 11, .bin .add (.tmp 10) (.const (.int .i64 1)), none⟩,
    ⟨some 5, .mov (.tmp 11), none⟩] [0, 1, 5])))
def c127 : CFn := ⟨78, [.tmp 4],
  (.seq (.region [
    ⟨some 4, .mov (.const (.int .i64 0)), none⟩] [0, 1])
  (.seq (.seq (.region [
    ⟨some 5, .mov (.const (.int .i64 0)), none⟩] [0, 1, 5])
  (.block 0
    (.loop [0, 1, 5] c127b0)))
  (.seq (.region [
    ⟨some 77, .mov (.tmp 1), none⟩,
    ⟨some 4, .mov (.tmp 77), none⟩] [4])
  .ret)))⟩
-- laws.markMateAskS
def c128b0 : CCode := (.seq (.seq (.region [
    ⟨some 6, .mov (.tmp 5), none⟩,
    ⟨some 7, .mov (.tmp 0), none⟩,
    ⟨some 8, .len false (.tmp 7), none⟩,
    ⟨some 9, .bin .lss (.tmp 6) (.tmp 8), none⟩] [0, 1, 5, 9])
  (.cond (.tmp 9)
    .skip
    (.exit 0)))
  (.seq (.block 1
    (.seq (.region [
      ⟨some 12, .mov (.tmp 0), none⟩,
      ⟨some 13, .mov (.tmp 5), none⟩,
      ⟨some 14, .mov (.tmp 1), none⟩,
      ⟨some 15, .call 96 [false] [.tmp 14], none⟩,
      ⟨some 16, .iaddr 4 (.tmp 12) (.tmp 13), none⟩,
      ⟨some 17, .faddr (.tmp 16) 0, none⟩,
      ⟨none, .store (.tmp 17) (.tmp 15) 1, none⟩] [0, 1, 5])
    (.seq (.region [
      ⟨some 18, .mov (.tmp 1), none⟩,
      ⟨some 19, .bin .add (.tmp 18) (.const (.int .i64 1)), none⟩,
      ⟨some 1, .mov (.tmp 19), none⟩] [0, 1, 5])
    (.seq (.region [
      ⟨some 20, .mov (.tmp 0), none⟩,
      ⟨some 21, .mov (.tmp 5), none⟩,
      ⟨some 22, .mov (.tmp 1), none⟩,
      ⟨some 23, .call 96 [false] [.tmp 22], none⟩,
      ⟨some 24, .iaddr 4 (.tmp 20) (.tmp 21), none⟩,
      ⟨some 25, .faddr (.tmp 24) 1, none⟩,
      ⟨none, .store (.tmp 25) (.tmp 23) 1, none⟩] [0, 1, 5])
    (.seq (.region [
      ⟨some 26, .mov (.tmp 1), none⟩,
      ⟨some 27, .bin .add (.tmp 26) (.const (.int .i64 1)), none⟩,
      ⟨some 1, .mov (.tmp 27), none⟩] [0, 1, 5])
    (.seq (.region [
      ⟨some 28, .mov (.tmp 0), none⟩,
      ⟨some 29, .mov (.tmp 5), none⟩,
      ⟨some 30, .mov (.tmp 1), none⟩,
      ⟨some 31, .iaddr 4 (.tmp 28) (.tmp 29), none⟩,
      ⟨some 32, .faddr (.tmp 31) 2, none⟩,
      ⟨none, .store (.tmp 32) (.tmp 30) 1, none⟩] [0, 1, 5])
    (.seq (.region [
      ⟨some 33, .mov (.tmp 1), none⟩,
      ⟨some 34, .bin .add (.tmp 33) (.const (.int .i64 1)), none⟩,
      ⟨some 1, .mov (.tmp 34), none⟩] [0, 1, 5])
    (.seq (.region [
      ⟨some 35, .mov (.tmp 0), none⟩,
      ⟨some 36, .mov (.tmp 5), none⟩,
      ⟨some 37, .mov (.tmp 1), none⟩,
      ⟨some 38, .iaddr 4 (.tmp 35) (.tmp 36), none⟩,
      ⟨some 39, .faddr (.tmp 38) 3, none⟩,
      ⟨none, .store (.tmp 39) (.tmp 37) 1, none⟩] [0, 1, 5])
    (.region [
      ⟨some 40, .mov (.tmp 1), none⟩,
      ⟨some 41, .bin .add (.tmp 40) (.const (.int .i64 1)), none⟩,
      ⟨some 1, .mov (.tmp 41), none⟩] [0, 1, 5])))))))))
  (.region [
    ⟨some 10, .mov (.tmp 5), none⟩,
    ⟨some 11, .bin .add (.tmp 10) (.const (.int .i64 1)), none⟩,
    ⟨some 5, .mov (.tmp 11), none⟩] [0, 1, 5])))
def c128 : CFn := ⟨43, [.tmp 4],
  (.seq (.region [
    ⟨some 4, .mov (.const (.int .i64 0)), none⟩] [0, 1])
  (.seq (.seq (.region [
    ⟨some 5, .mov (.const (.int .i64 0)), none⟩] [0, 1, 5])
  (.block 0
    (.loop [0, 1, 5] c128b0)))
  (.seq (.region [
    ⟨some 42, .mov (.tmp 1), none⟩,
    ⟨some 4, .mov (.tmp 42), none⟩] [4])
  .ret)))⟩
-- laws.heldMateAskS
def c129b0 : CCode := (.seq (.seq (.region [
    ⟨some 6, .mov (.tmp 5), none⟩,
    ⟨some 7, .mov (.tmp 0), none⟩,
    ⟨some 8, .len false (.tmp 7), none⟩,
    ⟨some 9, .bin .lss (.tmp 6) (.tmp 8), none⟩] [0, 1, 5, 9])
  (.cond (.tmp 9)
    .skip
    (.exit 0)))
  (.seq (.block 1
    (.seq (.seq (.quiet [
      ⟨some 12, .mov (.tmp 0), none⟩,
      ⟨some 13, .mov (.tmp 5), none⟩,
      ⟨some 14, .iaddr 4 (.tmp 12) (.tmp 13), none⟩,
      ⟨some 15, .faddr (.tmp 14) 0, none⟩,
      ⟨some 16, .load (.tmp 15) 1 false .plain, none⟩,
      ⟨some 17, .mov (.tmp 1), none⟩,
      ⟨some 18, .call 96 [false] [.tmp 17], none⟩,
      ⟨some 19, .bin .neq (.tmp 16) (.tmp 18), none⟩] [0, 1, 5, 19])
    (.cond (.tmp 19)
      (.seq (.region [
        ⟨some 4, .mov (.const (.int .i64 (-1))), none⟩] [4])
      .ret)
      .skip))
    (.seq (.region [
      ⟨some 20, .mov (.tmp 1), none⟩,
      ⟨some 21, .bin .add (.tmp 20) (.const (.int .i64 1)), none⟩,
      ⟨some 1, .mov (.tmp 21), none⟩] [0, 1, 5])
    (.seq (.seq (.quiet [
      ⟨some 22, .mov (.tmp 0), none⟩,
      ⟨some 23, .mov (.tmp 5), none⟩,
      ⟨some 24, .iaddr 4 (.tmp 22) (.tmp 23), none⟩,
      ⟨some 25, .faddr (.tmp 24) 1, none⟩,
      ⟨some 26, .load (.tmp 25) 1 false .plain, none⟩,
      ⟨some 27, .mov (.tmp 1), none⟩,
      ⟨some 28, .call 96 [false] [.tmp 27], none⟩,
      ⟨some 29, .bin .neq (.tmp 26) (.tmp 28), none⟩] [0, 1, 5, 29])
    (.cond (.tmp 29)
      (.seq (.region [
        ⟨some 4, .mov (.const (.int .i64 (-1))), none⟩] [4])
      .ret)
      .skip))
    (.seq (.region [
      ⟨some 30, .mov (.tmp 1), none⟩,
      ⟨some 31, .bin .add (.tmp 30) (.const (.int .i64 1)), none⟩,
      ⟨some 1, .mov (.tmp 31), none⟩] [0, 1, 5])
    (.seq (.seq (.region [
      ⟨some 32, .mov (.tmp 0), none⟩,
      ⟨some 33, .mov (.tmp 5), none⟩,
      ⟨some 34, .iaddr 4 (.tmp 32) (.tmp 33), none⟩,
      ⟨some 35, .faddr (.tmp 34) 2, none⟩,
      ⟨some 36, .load (.tmp 35) 1 false .plain, none⟩,
      ⟨some 37, .mov (.tmp 1), none⟩,
      ⟨some 38, .bin .neq (.tmp 36) (.tmp 37), none⟩] [0, 1, 5, 38])
    (.cond (.tmp 38)
      (.seq (.region [
        ⟨some 4, .mov (.const (.int .i64 (-1))), none⟩] [4])
      .ret)
      .skip))
    (.seq (.region [
      ⟨some 39, .mov (.tmp 1), none⟩,
      ⟨some 40, .bin .add (.tmp 39) (.const (.int .i64 1)), none⟩,
      ⟨some 1, .mov (.tmp 40), none⟩] [0, 1, 5])
    (.seq (.seq (.region [
      ⟨some 41, .mov (.tmp 0), none⟩,
      ⟨some 42, .mov (.tmp 5), none⟩,
      ⟨some 43, .iaddr 4 (.tmp 41) (.tmp 42), none⟩,
      ⟨some 44, .faddr (.tmp 43) 3, none⟩,
      ⟨some 45, .load (.tmp 44) 1 false .plain, none⟩,
      ⟨some 46, .mov (.tmp 1), none⟩,
      ⟨some 47, .bin .neq (.tmp 45) (.tmp 46), none⟩] [0, 1, 5, 47])
    (.cond (.tmp 47)
      (.seq (.region [
        ⟨some 4, .mov (.const (.int .i64 (-1))), none⟩] [4])
      .ret)
      .skip))
    (.region [
      ⟨some 48, .mov (.tmp 1), none⟩,
      ⟨some 49, .bin .add (.tmp 48) (.const (.int .i64 1)), none⟩,
      ⟨some 1, .mov (.tmp 49), none⟩] [0, 1, 5])))))))))
  (.region [
    ⟨some 10, .mov (.tmp 5), none⟩,
    ⟨some 11, .bin .add (.tmp 10) (.const (.int .i64 1)), none⟩,
    ⟨some 5, .mov (.tmp 11), none⟩] [0, 1, 5])))
def c129 : CFn := ⟨51, [.tmp 4],
  (.seq (.region [
    ⟨some 4, .mov (.const (.int .i64 0)), none⟩] [0, 1])
  (.seq (.seq (.region [
    ⟨some 5, .mov (.const (.int .i64 0)), none⟩] [0, 1, 5])
  (.block 0
    (.loop [0, 1, 5] c129b0)))
  (.seq (.region [
    ⟨some 50, .mov (.tmp 1), none⟩,
    ⟨some 4, .mov (.tmp 50), none⟩] [4])
  .ret)))⟩
-- laws.eqMateS
def c130b0 : CCode := (.seq (.seq (.region [
    ⟨some 11, .mov (.tmp 5), none⟩,
    ⟨some 12, .mov (.tmp 0), none⟩,
    ⟨some 13, .len false (.tmp 12), none⟩,
    ⟨some 14, .bin .lss (.tmp 11) (.tmp 13), none⟩] [0, 1, 5, 14])
  (.cond (.tmp 14)
    .skip
    (.exit 0)))
  (.seq (.block 1
    (.seq (.quiet [
      ⟨some 17, .mov (.tmp 0), none⟩,
      ⟨some 18, .mov (.tmp 5), none⟩,
      ⟨some 19, .iaddr 9 (.tmp 17) (.tmp 18), none⟩,
      ⟨some 20, .load (.tmp 19) 9 true .plain, none⟩,
      ⟨some 21, .mov (.tmp 1), none⟩,
      ⟨some 22, .mov (.tmp 5), none⟩,
      ⟨some 23, .iaddr 9 (.tmp 21) (.tmp 22), none⟩,
      ⟨some 24, .load (.tmp 23) 9 true .plain, none⟩,
      ⟨some 25, .call 27 [false, false] [.tmp 20, .tmp 24], none⟩,
      ⟨some 26, .un .not (.tmp 25), none⟩] [0, 1, 5, 26])
    (.cond (.tmp 26)
      (.seq (.region [
        ⟨some 4, .mov (.const (.bool false)), none⟩] [4])
      .ret)
      .skip)))
  (.region [
    ⟨some 15, .mov (.tmp 5), none⟩,
    ⟨some 16, .bin .add (.tmp 15) (.const (.int .i64 1)), none⟩,
    ⟨some 5, .mov (.tmp 16), none⟩] [0, 1, 5])))
def c130 : CFn := ⟨27, [.tmp 4],
  (.seq (.region [
    ⟨some 4, .mov (.const (.bool false)), none⟩] [0, 1])
  (.seq (.seq (.region [
    ⟨some 6, .mov (.tmp 0), none⟩,
    ⟨some 7, .len false (.tmp 6), none⟩,
    ⟨some 8, .mov (.tmp 1), none⟩,
    ⟨some 9, .len false (.tmp 8), none⟩,
    ⟨some 10, .bin .neq (.tmp 7) (.tmp 9), none⟩] [0, 1, 10])
  (.cond (.tmp 10)
    (.seq (.region [
      ⟨some 4, .mov (.const (.bool false)), none⟩] [4])
    .ret)
    .skip))
  (.seq (.seq (.region [
    ⟨some 5, .mov (.const (.int .i64 0)), none⟩] [0, 1, 5])
  (.block 0
    (.loop [0, 1, 5] c130b0)))
  (.seq (.region [
    ⟨some 4, .mov (.const (.bool true)), none⟩] [4])
  .ret))))⟩
-- laws.markMateS
def c131b0 : CCode := (.seq (.seq (.region [
    ⟨some 6, .mov (.tmp 5), none⟩,
    ⟨some 7, .mov (.tmp 0), none⟩,
    ⟨some 8, .len false (.tmp 7), none⟩,
    ⟨some 9, .bin .lss (.tmp 6) (.tmp 8), none⟩] [0, 1, 5, 9])
  (.cond (.tmp 9)
    .skip
    (.exit 0)))
  (.seq (.block 1
    (.seq (.region [
      ⟨some 12, .mov (.tmp 0), none⟩,
      ⟨some 13, .mov (.tmp 5), none⟩,
      ⟨some 14, .mov (.tmp 1), none⟩,
      ⟨some 15, .call 96 [false] [.tmp 14], none⟩,
      ⟨some 16, .iaddr 9 (.tmp 12) (.tmp 13), none⟩,
      ⟨some 17, .faddr (.tmp 16) 0, none⟩,
      ⟨none, .store (.tmp 17) (.tmp 15) 1, none⟩] [0, 1, 5])
    (.seq (.region [
      ⟨some 18, .mov (.tmp 1), none⟩,
      ⟨some 19, .bin .add (.tmp 18) (.const (.int .i64 1)), none⟩,
      ⟨some 1, .mov (.tmp 19), none⟩] [0, 1, 5])
    (.seq (.region [
      ⟨some 20, .mov (.tmp 0), none⟩,
      ⟨some 21, .mov (.tmp 5), none⟩,
      ⟨some 22, .mov (.tmp 1), none⟩,
      ⟨some 23, .bin .rem (.tmp 22) (.const (.int .i64 3)), none⟩,
      ⟨some 24, .bin .eql (.tmp 23) (.const (.int .i64 0)), none⟩,
      ⟨some 25, .iaddr 9 (.tmp 20) (.tmp 21), none⟩,
      ⟨some 26, .faddr (.tmp 25) 1, none⟩,
      ⟨none, .store (.tmp 26) (.tmp 24) 1, none⟩] [0, 1, 5])
    (.seq (.region [
      ⟨some 27, .mov (.tmp 1), none⟩,
      ⟨some 28, .bin .add (.tmp 27) (.const (.int .i64 1)), none⟩,
      ⟨some 1, .mov (.tmp 28), none⟩] [0, 1, 5])
    (.seq (.region [
      ⟨some 29, .mov (.tmp 0), none⟩,
      ⟨some 30, .mov (.tmp 5), none⟩,
      ⟨some 31, .mov (.tmp 1), none⟩,
      ⟨some 32, .iaddr 9 (.tmp 29) (.tmp 30), none⟩,
      ⟨some 33, .faddr (.tmp 32) 2, none⟩,
      ⟨none, .store (.tmp 33) (.tmp 31) 1, none⟩] [0, 1, 5])
    (.seq (.region [
      ⟨some 34, .mov (.tmp 1), none⟩,
      ⟨some 35, .bin .add (.tmp 34) (.const (.int .i64 1)), none⟩,
      ⟨some 1, .mov (.tmp 35), none⟩] [0, 1, 5])
    (.seq (.region [
      ⟨some 36, .mov (.tmp 0), none⟩,
      ⟨some 37, .mov (.tmp 5), none⟩,
      ⟨some 38, .mov (.tmp 1), none⟩,
      ⟨some 39, .bin .rem (.tmp 38) (.const (.int .i64 3)), none⟩,
      ⟨some 40, .bin .eql (.tmp 39) (.const (.int .i64 0)), none⟩,
      ⟨some 41, .iaddr 9 (.tmp 36) (.tmp 37), none⟩,
      ⟨some 42, .faddr (.tmp 41) 3, none⟩,
      ⟨none, .store (.tmp 42) (.tmp 40) 1, none⟩] [0, 1, 5])
    (.seq (.region [
      ⟨some 43, .mov (.tmp 1), none⟩,
      ⟨some 44, .bin .add (.tmp 43) (.const (.int .i64 1)), none⟩,
      ⟨some 1, .mov (.tmp 44), none⟩] [0, 1, 5])
    (.seq (.region [
      ⟨some 45, .mov (.tmp 0), none⟩,
      ⟨some 46, .mov (.tmp 5), none⟩,
      ⟨some 47, .mov (.tmp 1), none⟩,
      ⟨some 48, .iaddr 9 (.tmp 45) (.tmp 46), none⟩,
      ⟨some 49, .faddr (.tmp 48) 4, none⟩,
      ⟨none, .store (.tmp 49) (.tmp 47) 1, none⟩] [0, 1, 5])
    (.seq (.region [
      ⟨some 50, .mov (.tmp 1), none⟩,
      ⟨some 51, .bin .add (.tmp 50) (.const (.int .i64 1)), none⟩,
      ⟨some 1, .mov (.tmp 51), none⟩] [0, 1, 5])
    (.seq (.region [
      ⟨some 52, .mov (.tmp 0), none⟩,
      ⟨some 53, .mov (.tmp 5), none⟩,
      ⟨some 54, .iaddr 9 (.tmp 52) (.tmp 53), none⟩,
      ⟨some 55, .faddr (.tmp 54) 5, none⟩,
      ⟨some 56, .load (.tmp 55) 1 false .share, none⟩,
      ⟨some 57, .mov (.tmp 1), none⟩,
      ⟨some 58, .callin 71 (.tmp 56) [.tmp 57], none⟩,
      ⟨some 1, .mov (.tmp 58), none⟩] [0, 1, 5])
    (.seq (.region [
      ⟨some 59, .mov (.tmp 0), none⟩,
      ⟨some 60, .mov (.tmp 5), none⟩,
      ⟨some 61, .iaddr 9 (.tmp 59) (.tmp 60), none⟩,
      ⟨some 62, .faddr (.tmp 61) 6, none⟩,
      ⟨some 63, .load (.tmp 62) 1 false .share, none⟩,
      ⟨some 64, .mov (.tmp 1), none⟩,
      ⟨some 65, .callin 19 (.tmp 63) [.tmp 64], none⟩,
      ⟨some 1, .mov (.tmp 65), none⟩] [0, 1, 5])
    (.seq (.region [
      ⟨some 66, .mov (.tmp 0), none⟩,
      ⟨some 67, .mov (.tmp 5), none⟩,
      ⟨some 68, .iaddr 9 (.tmp 66) (.tmp 67), none⟩,
      ⟨some 69, .faddr (.tmp 68) 7, none⟩,
      ⟨some 70, .load (.tmp 69) 1 false .share, none⟩,
      ⟨some 71, .mov (.tmp 1), none⟩,
      ⟨some 72, .callin 128 (.tmp 70) [.tmp 71], none⟩,
      ⟨some 1, .mov (.tmp 72), none⟩] [0, 1, 5])
    (.region [
      ⟨some 73, .mov (.tmp 0), none⟩,
      ⟨some 74, .mov (.tmp 5), none⟩,
      ⟨some 75, .iaddr 9 (.tmp 73) (.tmp 74), none⟩,
      ⟨some 76, .faddr (.tmp 75) 8, none⟩,
      ⟨some 77, .load (.tmp 76) 1 false .share, none⟩,
      ⟨some 78, .mov (.tmp 1), none⟩,
      ⟨some 79, .callin 128 (.tmp 77) [.tmp 78], none⟩,
      ⟨some 1, .mov (.tmp 79), none⟩] [0, 1, 5])))))))))))))))
  (.region [
    ⟨some 10, .mov (.tmp 5), none⟩,
    ⟨some 11, .bin .add (.tmp 10) (.const (.int .i64 1)), none⟩,
    ⟨some 5, .mov (.tmp 11), none⟩] [0, 1, 5])))
def c131 : CFn := ⟨81, [.tmp 4],
  (.seq (.region [
    ⟨some 4, .mov (.const (.int .i64 0)), none⟩] [0, 1])
  (.seq (.seq (.region [
    ⟨some 5, .mov (.const (.int .i64 0)), none⟩] [0, 1, 5])
  (.block 0
    (.loop [0, 1, 5] c131b0)))
  (.seq (.region [
    ⟨some 80, .mov (.tmp 1), none⟩,
    ⟨some 4, .mov (.tmp 80), none⟩] [4])
  .ret)))⟩
-- laws.heldStringS
def c132b0 : CCode := (.seq (.seq (.region [
    ⟨some 6, .mov (.tmp 5), none⟩,
    ⟨some 7, .mov (.tmp 0), none⟩,
    ⟨some 8, .len false (.tmp 7), none⟩,
    ⟨some 9, .bin .lss (.tmp 6) (.tmp 8), none⟩] [0, 1, 5, 9])
  (.cond (.tmp 9)
    .skip
    (.exit 0)))
  (.seq (.block 1
    (.seq (.seq (.quiet [
      ⟨some 12, .mov (.tmp 0), none⟩,
      ⟨some 13, .mov (.tmp 5), none⟩,
      ⟨some 14, .iaddr 1 (.tmp 12) (.tmp 13), none⟩,
      ⟨some 15, .load (.tmp 14) 1 false .plain, none⟩,
      ⟨some 16, .mov (.tmp 1), none⟩,
      ⟨some 17, .call 96 [false] [.tmp 16], none⟩,
      ⟨some 18, .bin .neq (.tmp 15) (.tmp 17), none⟩] [0, 1, 5, 18])
    (.cond (.tmp 18)
      (.seq (.region [
        ⟨some 4, .mov (.const (.int .i64 (-1))), none⟩] [4])
      .ret)
      .skip))
    (.region [
      ⟨some 19, .mov (.tmp 1), none⟩,
      ⟨some 20, .bin .add (.tmp 19) (.const (.int .i64 1)), none⟩,
      ⟨some 1, .mov (.tmp 20), none⟩] [0, 1, 5])))
  (.region [
    ⟨some 10, .mov (.tmp 5), none⟩,
    ⟨some 11, .bin .add (.tmp 10) (.const (.int .i64 1)), none⟩,
    ⟨some 5, .mov (.tmp 11), none⟩] [0, 1, 5])))
def c132 : CFn := ⟨22, [.tmp 4],
  (.seq (.region [
    ⟨some 4, .mov (.const (.int .i64 0)), none⟩] [0, 1])
  (.seq (.seq (.region [
    ⟨some 5, .mov (.const (.int .i64 0)), none⟩] [0, 1, 5])
  (.block 0
    (.loop [0, 1, 5] c132b0)))
  (.seq (.region [
    ⟨some 21, .mov (.tmp 1), none⟩,
    ⟨some 4, .mov (.tmp 21), none⟩] [4])
  .ret)))⟩
-- laws.heldMateS
def c133b0 : CCode := (.seq (.seq (.region [
    ⟨some 6, .mov (.tmp 5), none⟩,
    ⟨some 7, .mov (.tmp 0), none⟩,
    ⟨some 8, .len false (.tmp 7), none⟩,
    ⟨some 9, .bin .lss (.tmp 6) (.tmp 8), none⟩] [0, 1, 5, 9])
  (.cond (.tmp 9)
    .skip
    (.exit 0)))
  (.seq (.block 1
    (.seq (.seq (.quiet [
      ⟨some 12, .mov (.tmp 0), none⟩,
      ⟨some 13, .mov (.tmp 5), none⟩,
      ⟨some 14, .iaddr 9 (.tmp 12) (.tmp 13), none⟩,
      ⟨some 15, .faddr (.tmp 14) 0, none⟩,
      ⟨some 16, .load (.tmp 15) 1 false .plain, none⟩,
      ⟨some 17, .mov (.tmp 1), none⟩,
      ⟨some 18, .call 96 [false] [.tmp 17], none⟩,
      ⟨some 19, .bin .neq (.tmp 16) (.tmp 18), none⟩] [0, 1, 5, 19])
    (.cond (.tmp 19)
      (.seq (.region [
        ⟨some 4, .mov (.const (.int .i64 (-1))), none⟩] [4])
      .ret)
      .skip))
    (.seq (.region [
      ⟨some 20, .mov (.tmp 1), none⟩,
      ⟨some 21, .bin .add (.tmp 20) (.const (.int .i64 1)), none⟩,
      ⟨some 1, .mov (.tmp 21), none⟩] [0, 1, 5])
    (.seq (.seq (.region [
      ⟨some 22, .mov (.tmp 0), none⟩,
      ⟨some 23, .mov (.tmp 5), none⟩,
      ⟨some 24, .iaddr 9 (.tmp 22) (.tmp 23), none⟩,
      ⟨some 25, .faddr (.tmp 24) 1, none⟩,
      ⟨some 26, .load (.tmp 25) 1 false .plain, none⟩,
      ⟨some 27, .mov (.tmp 1), none⟩,
      ⟨some 28, .bin .rem (.tmp 27) (.const (.int .i64 3)), none⟩,
      ⟨some 29, .bin .eql (.tmp 28) (.const (.int .i64 0)), none⟩,
      ⟨some 30, .beq true (.tmp 26) (.tmp 29), none⟩] [0, 1, 5, 30])
    (.cond (.tmp 30)
      (.seq (.region [
        ⟨some 4, .mov (.const (.int .i64 (-1))), none⟩] [4])
      .ret)
      .skip))
    (.seq (.region [
      ⟨some 31, .mov (.tmp 1), none⟩,
      ⟨some 32, .bin .add (.tmp 31) (.const (.int .i64 1)), none⟩,
      ⟨some 1, .mov (.tmp 32), none⟩] [0, 1, 5])
    (.seq (.seq (.region [
      ⟨some 33, .mov (.tmp 0), none⟩,
      ⟨some 34, .mov (.tmp 5), none⟩,
      ⟨some 35, .iaddr 9 (.tmp 33) (.tmp 34), none⟩,
      ⟨some 36, .faddr (.tmp 35) 2, none⟩,
      ⟨some 37, .load (.tmp 36) 1 false .plain, none⟩,
      ⟨some 38, .mov (.tmp 1), none⟩,
      ⟨some 39, .bin .neq (.tmp 37) (.tmp 38), none⟩] [0, 1, 5, 39])
    (.cond (.tmp 39)
      (.seq (.region [
        ⟨some 4, .mov (.const (.int .i64 (-1))), none⟩] [4])
      .ret)
      .skip))
    (.seq (.region [
      ⟨some 40, .mov (.tmp 1), none⟩,
      ⟨some 41, .bin .add (.tmp 40) (.const (.int .i64 1)), none⟩,
      ⟨some 1, .mov (.tmp 41), none⟩] [0, 1, 5])
    (.seq (.seq (.region [
      ⟨some 42, .mov (.tmp 0), none⟩,
      ⟨some 43, .mov (.tmp 5), none⟩,
      ⟨some 44, .iaddr 9 (.tmp 42) (.tmp 43), none⟩,
      ⟨some 45, .faddr (.tmp 44) 3, none⟩,
      ⟨some 46, .load (.tmp 45) 1 false .plain, none⟩,
      ⟨some 47, .mov (.tmp 1), none⟩,
      ⟨some 48, .bin .rem (.tmp 47) (.const (.int .i64 3)), none⟩,
      ⟨some 49, .bin .eql (.tmp 48) (.const (.int .i64 0)), none⟩,
      ⟨some 50, .beq true (.tmp 46) (.tmp 49), none⟩] [0, 1, 5, 50])
    (.cond (.tmp 50)
      (.seq (.region [
        ⟨some 4, .mov (.const (.int .i64 (-1))), none⟩] [4])
      .ret)
      .skip))
    (.seq (.region [
      ⟨some 51, .mov (.tmp 1), none⟩,
      ⟨some 52, .bin .add (.tmp 51) (.const (.int .i64 1)), none⟩,
      ⟨some 1, .mov (.tmp 52), none⟩] [0, 1, 5])
    (.seq (.seq (.region [
      ⟨some 53, .mov (.tmp 0), none⟩,
      ⟨some 54, .mov (.tmp 5), none⟩,
      ⟨some 55, .iaddr 9 (.tmp 53) (.tmp 54), none⟩,
      ⟨some 56, .faddr (.tmp 55) 4, none⟩,
      ⟨some 57, .load (.tmp 56) 1 false .plain, none⟩,
      ⟨some 58, .mov (.tmp 1), none⟩,
      ⟨some 59, .bin .neq (.tmp 57) (.tmp 58), none⟩] [0, 1, 5, 59])
    (.cond (.tmp 59)
      (.seq (.region [
        ⟨some 4, .mov (.const (.int .i64 (-1))), none⟩] [4])
      .ret)
      .skip))
    (.seq (.region [
      ⟨some 60, .mov (.tmp 1), none⟩,
      ⟨some 61, .bin .add (.tmp 60) (.const (.int .i64 1)), none⟩,
      ⟨some 1, .mov (.tmp 61), none⟩] [0, 1, 5])
    (.seq (.region [
      ⟨some 62, .mov (.tmp 0), none⟩,
      ⟨some 63, .mov (.tmp 5), none⟩,
      ⟨some 64, .iaddr 9 (.tmp 62) (.tmp 63), none⟩,
      ⟨some 65, .faddr (.tmp 64) 5, none⟩,
      ⟨some 66, .load (.tmp 65) 1 false .plain, none⟩,
      ⟨some 67, .mov (.tmp 1), none⟩,
      ⟨some 68, .call 127 [false, false] [.tmp 66, .tmp 67], none⟩,
      ⟨some 1, .mov (.tmp 68), none⟩] [0, 1, 5])
    (.seq (.seq (.region [
      ⟨some 69, .mov (.tmp 1), none⟩,
      ⟨some 70, .bin .lss (.tmp 69) (.const (.int .i64 0)), none⟩] [0, 1, 5, 70])
    (.cond (.tmp 70)
      (.seq (.region [
        ⟨some 4, .mov (.const (.int .i64 (-1))), none⟩] [4])
      .ret)
      .skip))
    (.seq (.region [
      ⟨some 71, .mov (.tmp 0), none⟩,
      ⟨some 72, .mov (.tmp 5), none⟩,
      ⟨some 73, .iaddr 9 (.tmp 71) (.tmp 72), none⟩,
      ⟨some 74, .faddr (.tmp 73) 6, none⟩,
      ⟨some 75, .load (.tmp 74) 1 false .plain, none⟩,
      ⟨some 76, .mov (.tmp 1), none⟩,
      ⟨some 77, .call 17 [false, false] [.tmp 75, .tmp 76], none⟩,
      ⟨some 1, .mov (.tmp 77), none⟩] [0, 1, 5])
    (.seq (.seq (.region [
      ⟨some 78, .mov (.tmp 1), none⟩,
      ⟨some 79, .bin .lss (.tmp 78) (.const (.int .i64 0)), none⟩] [0, 1, 5, 79])
    (.cond (.tmp 79)
      (.seq (.region [
        ⟨some 4, .mov (.const (.int .i64 (-1))), none⟩] [4])
      .ret)
      .skip))
    (.seq (.region [
      ⟨some 80, .mov (.tmp 0), none⟩,
      ⟨some 81, .mov (.tmp 5), none⟩,
      ⟨some 82, .iaddr 9 (.tmp 80) (.tmp 81), none⟩,
      ⟨some 83, .faddr (.tmp 82) 7, none⟩,
      ⟨some 84, .load (.tmp 83) 1 false .plain, none⟩,
      ⟨some 85, .mov (.tmp 1), none⟩,
      ⟨some 86, .call 129 [false, false] [.tmp 84, .tmp 85], none⟩,
      ⟨some 1, .mov (.tmp 86), none⟩] [0, 1, 5])
    (.seq (.seq (.region [
      ⟨some 87, .mov (.tmp 1), none⟩,
      ⟨some 88, .bin .lss (.tmp 87) (.const (.int .i64 0)), none⟩] [0, 1, 5, 88])
    (.cond (.tmp 88)
      (.seq (.region [
        ⟨some 4, .mov (.const (.int .i64 (-1))), none⟩] [4])
      .ret)
      .skip))
    (.seq (.region [
      ⟨some 89, .mov (.tmp 0), none⟩,
      ⟨some 90, .mov (.tmp 5), none⟩,
      ⟨some 91, .iaddr 9 (.tmp 89) (.tmp 90), none⟩,
      ⟨some 92, .faddr (.tmp 91) 8, none⟩,
      ⟨some 93, .load (.tmp 92) 1 false .plain, none⟩,
      ⟨some 94, .mov (.tmp 1), none⟩,
      ⟨some 95, .call 129 [false, false] [.tmp 93, .tmp 94], none⟩,
      ⟨some 1, .mov (.tmp 95), none⟩] [0, 1, 5])
    (.seq (.region [
      ⟨some 96, .mov (.tmp 1), none⟩,
      ⟨some 97, .bin .lss (.tmp 96) (.const (.int .i64 0)), none⟩] [0, 1, 5, 97])
    (.cond (.tmp 97)
      (.seq (.region [
        ⟨some 4, .mov (.const (.int .i64 (-1))), none⟩] [4])
      .ret)
      .skip))))))))))))))))))))
  (.region [
    ⟨some 10, .mov (.tmp 5), none⟩,
    ⟨some 11, .bin .add (.tmp 10) (.const (.int .i64 1)), none⟩,
    ⟨some 5, .mov (.tmp 11), none⟩] [0, 1, 5])))
def c133 : CFn := ⟨99, [.tmp 4],
  (.seq (.region [
    ⟨some 4, .mov (.const (.int .i64 0)), none⟩] [0, 1])
  (.seq (.seq (.region [
    ⟨some 5, .mov (.const (.int .i64 0)), none⟩] [0, 1, 5])
  (.block 0
    (.loop [0, 1, 5] c133b0)))
  (.seq (.region [
    ⟨some 98, .mov (.tmp 1), none⟩,
    ⟨some 4, .mov (.tmp 98), none⟩] [4])
  .ret)))⟩
-- laws.eqMateGrant
def c150 : CFn := ⟨30, [.tmp 4],
  (.seq (.region [
    ⟨some 2, .box (.tmp 0), none⟩,
    ⟨some 3, .box (.tmp 1), none⟩,
    ⟨some 4, .mov (.const (.bool false)), none⟩] [2, 3])
  (.seq (.seq (.region [
    ⟨some 5, .faddr (.tmp 2) 0, none⟩,
    ⟨some 6, .load (.tmp 5) 1 false .plain, none⟩,
    ⟨some 7, .faddr (.tmp 3) 0, none⟩,
    ⟨some 8, .load (.tmp 7) 1 false .plain, none⟩,
    ⟨some 9, .bin .neq (.tmp 6) (.tmp 8), none⟩] [2, 3, 9])
  (.cond (.tmp 9)
    (.seq (.region [
      ⟨some 4, .mov (.const (.bool false)), none⟩] [4])
    .ret)
    .skip))
  (.seq (.seq (.region [
    ⟨some 10, .faddr (.tmp 2) 1, none⟩,
    ⟨some 11, .load (.tmp 10) 1 false .plain, none⟩,
    ⟨some 12, .faddr (.tmp 3) 1, none⟩,
    ⟨some 13, .load (.tmp 12) 1 false .plain, none⟩,
    ⟨some 14, .bin .neq (.tmp 11) (.tmp 13), none⟩] [2, 3, 14])
  (.cond (.tmp 14)
    (.seq (.region [
      ⟨some 4, .mov (.const (.bool false)), none⟩] [4])
    .ret)
    .skip))
  (.seq (.seq (.region [
    ⟨some 15, .faddr (.tmp 2) 2, none⟩,
    ⟨some 16, .load (.tmp 15) 1 false .plain, none⟩,
    ⟨some 17, .faddr (.tmp 3) 2, none⟩,
    ⟨some 18, .load (.tmp 17) 1 false .plain, none⟩,
    ⟨some 19, .bin .neq (.tmp 16) (.tmp 18), none⟩] [2, 3, 19])
  (.cond (.tmp 19)
    (.seq (.region [
      ⟨some 4, .mov (.const (.bool false)), none⟩] [4])
    .ret)
    .skip))
  (.seq (.seq (.region [
    ⟨some 20, .faddr (.tmp 2) 3, none⟩,
    ⟨some 21, .load (.tmp 20) 1 false .plain, none⟩,
    ⟨some 22, .faddr (.tmp 3) 3, none⟩,
    ⟨some 23, .load (.tmp 22) 1 false .plain, none⟩,
    ⟨some 24, .bin .neq (.tmp 21) (.tmp 23), none⟩] [2, 3, 24])
  (.cond (.tmp 24)
    (.seq (.region [
      ⟨some 4, .mov (.const (.bool false)), none⟩] [4])
    .ret)
    .skip))
  (.seq (.seq (.region [
    ⟨some 25, .faddr (.tmp 2) 4, none⟩,
    ⟨some 26, .load (.tmp 25) 1 false .plain, none⟩,
    ⟨some 27, .faddr (.tmp 3) 4, none⟩,
    ⟨some 28, .load (.tmp 27) 1 false .plain, none⟩,
    ⟨some 29, .bin .neq (.tmp 26) (.tmp 28), none⟩] [29])
  (.cond (.tmp 29)
    (.seq (.region [
      ⟨some 4, .mov (.const (.bool false)), none⟩] [4])
    .ret)
    .skip))
  (.seq (.region [
    ⟨some 4, .mov (.const (.bool true)), none⟩] [4])
  .ret)))))))⟩
-- laws.eqMatePlace
def c151 : CFn := ⟨21, [.tmp 4],
  (.seq (.region [
    ⟨some 2, .box (.tmp 0), none⟩,
    ⟨some 3, .box (.tmp 1), none⟩,
    ⟨some 4, .mov (.const (.bool false)), none⟩] [2, 3])
  (.seq (.seq (.region [
    ⟨some 5, .faddr (.tmp 2) 0, none⟩,
    ⟨some 6, .load (.tmp 5) 1 false .plain, none⟩,
    ⟨some 7, .faddr (.tmp 3) 0, none⟩,
    ⟨some 8, .load (.tmp 7) 1 false .plain, none⟩,
    ⟨some 9, .bin .neq (.tmp 6) (.tmp 8), none⟩] [2, 3, 9])
  (.cond (.tmp 9)
    (.seq (.region [
      ⟨some 4, .mov (.const (.bool false)), none⟩] [4])
    .ret)
    .skip))
  (.seq (.seq (.region [
    ⟨some 10, .faddr (.tmp 2) 1, none⟩,
    ⟨some 11, .load (.tmp 10) 1 false .plain, none⟩,
    ⟨some 12, .faddr (.tmp 3) 1, none⟩,
    ⟨some 13, .load (.tmp 12) 1 false .plain, none⟩,
    ⟨some 14, .bin .neq (.tmp 11) (.tmp 13), none⟩] [2, 3, 14])
  (.cond (.tmp 14)
    (.seq (.region [
      ⟨some 4, .mov (.const (.bool false)), none⟩] [4])
    .ret)
    .skip))
  (.seq (.seq (.region [
    ⟨some 15, .faddr (.tmp 2) 2, none⟩,
    ⟨some 16, .load (.tmp 15) 1 false .plain, none⟩,
    ⟨some 17, .faddr (.tmp 3) 2, none⟩,
    ⟨some 18, .load (.tmp 17) 1 false .plain, none⟩,
    ⟨some 19, .call 5 [false, false] [.tmp 16, .tmp 18], none⟩,
    ⟨some 20, .un .not (.tmp 19), none⟩] [20])
  (.cond (.tmp 20)
    (.seq (.region [
      ⟨some 4, .mov (.const (.bool false)), none⟩] [4])
    .ret)
    .skip))
  (.seq (.region [
    ⟨some 4, .mov (.const (.bool true)), none⟩] [4])
  .ret)))))⟩
-- laws.eqMateAsk
def c154 : CFn := ⟨25, [.tmp 4],
  (.seq (.region [
    ⟨some 2, .box (.tmp 0), none⟩,
    ⟨some 3, .box (.tmp 1), none⟩,
    ⟨some 4, .mov (.const (.bool false)), none⟩] [2, 3])
  (.seq (.seq (.region [
    ⟨some 5, .faddr (.tmp 2) 0, none⟩,
    ⟨some 6, .load (.tmp 5) 1 false .plain, none⟩,
    ⟨some 7, .faddr (.tmp 3) 0, none⟩,
    ⟨some 8, .load (.tmp 7) 1 false .plain, none⟩,
    ⟨some 9, .bin .neq (.tmp 6) (.tmp 8), none⟩] [2, 3, 9])
  (.cond (.tmp 9)
    (.seq (.region [
      ⟨some 4, .mov (.const (.bool false)), none⟩] [4])
    .ret)
    .skip))
  (.seq (.seq (.region [
    ⟨some 10, .faddr (.tmp 2) 1, none⟩,
    ⟨some 11, .load (.tmp 10) 1 false .plain, none⟩,
    ⟨some 12, .faddr (.tmp 3) 1, none⟩,
    ⟨some 13, .load (.tmp 12) 1 false .plain, none⟩,
    ⟨some 14, .bin .neq (.tmp 11) (.tmp 13), none⟩] [2, 3, 14])
  (.cond (.tmp 14)
    (.seq (.region [
      ⟨some 4, .mov (.const (.bool false)), none⟩] [4])
    .ret)
    .skip))
  (.seq (.seq (.region [
    ⟨some 15, .faddr (.tmp 2) 2, none⟩,
    ⟨some 16, .load (.tmp 15) 1 false .plain, none⟩,
    ⟨some 17, .faddr (.tmp 3) 2, none⟩,
    ⟨some 18, .load (.tmp 17) 1 false .plain, none⟩,
    ⟨some 19, .bin .neq (.tmp 16) (.tmp 18), none⟩] [2, 3, 19])
  (.cond (.tmp 19)
    (.seq (.region [
      ⟨some 4, .mov (.const (.bool false)), none⟩] [4])
    .ret)
    .skip))
  (.seq (.seq (.region [
    ⟨some 20, .faddr (.tmp 2) 3, none⟩,
    ⟨some 21, .load (.tmp 20) 1 false .plain, none⟩,
    ⟨some 22, .faddr (.tmp 3) 3, none⟩,
    ⟨some 23, .load (.tmp 22) 1 false .plain, none⟩,
    ⟨some 24, .bin .neq (.tmp 21) (.tmp 23), none⟩] [24])
  (.cond (.tmp 24)
    (.seq (.region [
      ⟨some 4, .mov (.const (.bool false)), none⟩] [4])
    .ret)
    .skip))
  (.seq (.region [
    ⟨some 4, .mov (.const (.bool true)), none⟩] [4])
  .ret))))))⟩
-- laws.FnExactMateNewWorld
def c175 : CFn := ⟨69, [.tmp 2],
  (.seq (.region [
    ⟨some 2, .mov (.const (.bool false)), none⟩] [0])
  (.seq (.region [
    ⟨some 3, .mov (.const (.int .i64 1048576)), none⟩] [0, 3])
  (.seq (.region [
    ⟨some 11, .mov (.tmp 0), none⟩,
    ⟨some 12, .mov (.tmp 3), none⟩,
    ⟨some 13, .call 55 [false, false] [.tmp 11, .tmp 12], none⟩,
    ⟨some 3, .mov (.tmp 13), none⟩] [0, 3])
  (.seq (.seq (.region [
    ⟨some 14, .mov (.tmp 3), none⟩,
    ⟨some 15, .bin .lss (.tmp 14) (.const (.int .i64 0)), none⟩] [0, 15])
  (.cond (.tmp 15)
    (.seq (.region [
      ⟨some 2, .mov (.const (.bool true)), none⟩] [2])
    .ret)
    .skip))
  (.seq (.region [
    ⟨some 16, .mov (.tmp 0), none⟩,
    ⟨some 17, .call 49 [false] [.tmp 16], none⟩,
    ⟨some 18, .call 54 [false] [.tmp 17], none⟩,
    ⟨some 4, .alloc [.int .i64 0, .sl .own 5 [], .sl .own 3 [], .sl .own 9 [], .sl .own 1 []], none⟩,
    ⟨none, .store (.tmp 4) (.tmp 18) 5, none⟩] [0, 4])
  (.seq (.region [
    ⟨some 19, .mov (.tmp 0), none⟩,
    ⟨some 20, .call 49 [false] [.tmp 19], none⟩,
    ⟨some 5, .mov (.tmp 20), none⟩] [0, 4, 5])
  (.seq (.region [
    ⟨some 21, .mov (.tmp 5), none⟩,
    ⟨some 22, .call 50 [false] [.tmp 21], none⟩,
    ⟨some 6, .alloc [.int .i64 0, .sl .own 5 [], .sl .own 3 [], .sl .own 9 [], .sl .own 1 []], none⟩,
    ⟨none, .store (.tmp 6) (.tmp 22) 5, none⟩] [0, 4, 5, 6])
  (.seq (.seq (.region [
    ⟨some 23, .load (.tmp 6) 5 true .plain, none⟩,
    ⟨some 24, .load (.tmp 4) 5 true .plain, none⟩,
    ⟨some 25, .call 48 [false, false] [.tmp 23, .tmp 24], none⟩,
    ⟨some 26, .un .not (.tmp 25), none⟩] [0, 4, 5, 6, 26])
  (.cond (.tmp 26)
    (.seq (.region [
      ⟨some 2, .mov (.const (.bool false)), none⟩] [2])
    .ret)
    .skip))
  (.seq (.seq (.region [
    ⟨some 27, .mov (.tmp 5), none⟩,
    ⟨some 28, .mov (.tmp 0), none⟩,
    ⟨some 29, .call 49 [false] [.tmp 28], none⟩,
    ⟨some 30, .call 53 [false, false] [.tmp 27, .tmp 29], none⟩,
    ⟨some 31, .un .not (.tmp 30), none⟩] [0, 4, 5, 6, 31])
  (.cond (.tmp 31)
    (.seq (.region [
      ⟨some 2, .mov (.const (.bool false)), none⟩] [2])
    .ret)
    .skip))
  (.seq (.region [
    ⟨some 7, .mov (.const (.int .i64 1)), none⟩] [0, 4, 5, 6, 7])
  (.seq (.region [
    ⟨some 32, .mov (.tmp 5), none⟩,
    ⟨some 33, .mov (.tmp 7), none⟩,
    ⟨some 34, .call 52 [true, false] [.tmp 32, .tmp 33], none⟩,
    ⟨some 7, .mov (.tmp 34), none⟩] [0, 4, 6, 7])
  (.seq (.seq (.region [
    ⟨some 35, .mov (.tmp 7), none⟩,
    ⟨some 36, .bin .lss (.tmp 35) (.const (.int .i64 0)), none⟩,
    ⟨some 37, .mov (.tmp 36), none⟩,
    ⟨some 38, .load (.tmp 6) 5 true .plain, some (37, false)⟩,
    ⟨some 39, .load (.tmp 4) 5 true .plain, some (37, false)⟩,
    ⟨some 40, .call 48 [false, false] [.tmp 38, .tmp 39], some (37, false)⟩,
    ⟨some 41, .un .not (.tmp 40), some (37, false)⟩,
    ⟨some 42, .pick (.tmp 37) (.const (.bool true)) (.tmp 41), none⟩] [0, 4, 6, 42])
  (.cond (.tmp 42)
    (.seq (.region [
      ⟨some 2, .mov (.const (.bool false)), none⟩] [2])
    .ret)
    .skip))
  (.seq (.region [
    ⟨some 8, .mov (.const (.int .i64 1)), none⟩] [0, 4, 6, 8])
  (.seq (.region [
    ⟨some 43, .load (.tmp 6) 5 true .plain, none⟩,
    ⟨some 44, .mov (.tmp 8), none⟩,
    ⟨some 45, .call 51 [true, false] [.tmp 43, .tmp 44], none⟩,
    ⟨some 8, .mov (.tmp 45), none⟩] [0, 4, 6, 8])
  (.seq (.region [
    ⟨some 9, .mov (.const (.int .i64 1)), none⟩] [0, 4, 6, 8, 9])
  (.seq (.region [
    ⟨some 46, .load (.tmp 6) 5 true .plain, none⟩,
    ⟨some 47, .mov (.tmp 9), none⟩,
    ⟨some 48, .call 47 [false, false] [.tmp 46, .tmp 47], none⟩,
    ⟨some 9, .mov (.tmp 48), none⟩] [0, 4, 6, 8, 9])
  (.seq (.seq (.region [
    ⟨some 49, .mov (.tmp 9), none⟩,
    ⟨some 50, .bin .lss (.tmp 49) (.const (.int .i64 0)), none⟩] [0, 4, 6, 8, 9, 50])
  (.cond (.tmp 50)
    (.seq (.region [
      ⟨some 2, .mov (.const (.bool false)), none⟩] [2])
    .ret)
    .skip))
  (.seq (.seq (.region [
    ⟨some 51, .mov (.tmp 9), none⟩,
    ⟨some 52, .mov (.tmp 8), none⟩,
    ⟨some 53, .bin .neq (.tmp 51) (.tmp 52), none⟩] [0, 4, 6, 8, 53])
  (.cond (.tmp 53)
    (.seq (.region [
      ⟨some 2, .mov (.const (.bool false)), none⟩] [2])
    .ret)
    .skip))
  (.seq (.region [
    ⟨some 54, .mov (.tmp 0), none⟩,
    ⟨some 55, .call 49 [false] [.tmp 54], none⟩,
    ⟨some 56, .call 50 [false] [.tmp 55], none⟩,
    ⟨some 10, .alloc [.int .i64 0, .sl .own 5 [], .sl .own 3 [], .sl .own 9 [], .sl .own 1 []], none⟩,
    ⟨none, .store (.tmp 10) (.tmp 56) 5, none⟩] [4, 6, 8, 10])
  (.seq (.seq (.region [
    ⟨some 57, .load (.tmp 10) 5 true .plain, none⟩,
    ⟨some 58, .load (.tmp 4) 5 true .plain, none⟩,
    ⟨some 59, .call 48 [false, false] [.tmp 57, .tmp 58], none⟩,
    ⟨some 60, .un .not (.tmp 59), none⟩] [6, 8, 60])
  (.cond (.tmp 60)
    (.seq (.region [
      ⟨some 2, .mov (.const (.bool false)), none⟩] [2])
    .ret)
    .skip))
  (.seq (.region [
    ⟨some 9, .mov (.const (.int .i64 1)), none⟩] [6, 8, 9])
  (.seq (.region [
    ⟨some 61, .load (.tmp 6) 5 true .plain, none⟩,
    ⟨some 62, .mov (.tmp 9), none⟩,
    ⟨some 63, .call 47 [false, false] [.tmp 61, .tmp 62], none⟩,
    ⟨some 9, .mov (.tmp 63), none⟩] [8, 9])
  (.seq (.seq (.region [
    ⟨some 64, .mov (.tmp 9), none⟩,
    ⟨some 65, .bin .lss (.tmp 64) (.const (.int .i64 0)), none⟩] [8, 9, 65])
  (.cond (.tmp 65)
    (.seq (.region [
      ⟨some 2, .mov (.const (.bool false)), none⟩] [2])
    .ret)
    .skip))
  (.seq (.seq (.region [
    ⟨some 66, .mov (.tmp 9), none⟩,
    ⟨some 67, .mov (.tmp 8), none⟩,
    ⟨some 68, .bin .neq (.tmp 66) (.tmp 67), none⟩] [68])
  (.cond (.tmp 68)
    (.seq (.region [
      ⟨some 2, .mov (.const (.bool false)), none⟩] [2])
    .ret)
    .skip))
  (.seq (.region [
    ⟨some 2, .mov (.const (.bool true)), none⟩] [2])
  .ret)))))))))))))))))))))))))⟩
/-- The functions' own table. -/
def codeOf (k : Nat) : Option CFn :=
  match k with
  | 2 => some c2
  | 5 => some c5
  | 7 => some c7
  | 10 => some c10
  | 12 => some c12
  | 17 => some c17
  | 19 => some c19
  | 22 => some c22
  | 24 => some c24
  | 27 => some c27
  | 29 => some c29
  | 39 => some c39
  | 43 => some c43
  | 47 => some c47
  | 48 => some c48
  | 49 => some c49
  | 50 => some c50
  | 51 => some c51
  | 52 => some c52
  | 53 => some c53
  | 54 => some c54
  | 55 => some c55
  | 58 => some c58
  | 71 => some c71
  | 81 => some c81
  | 83 => some c83
  | 84 => some c84
  | 86 => some c86
  | 95 => some c95
  | 96 => some c96
  | 99 => some c99
  | 100 => some c100
  | 101 => some c101
  | 102 => some c102
  | 105 => some c105
  | 107 => some c107
  | 108 => some c108
  | 110 => some c110
  | 111 => some c111
  | 115 => some c115
  | 123 => some c123
  | 124 => some c124
  | 125 => some c125
  | 126 => some c126
  | 127 => some c127
  | 128 => some c128
  | 129 => some c129
  | 130 => some c130
  | 131 => some c131
  | 132 => some c132
  | 133 => some c133
  | 150 => some c150
  | 151 => some c151
  | 154 => some c154
  | 175 => some c175
  | _ => none
def prim : Callee := fun _ _ _ => none
def P : CProg := ⟨codeOf, prim⟩
@[simp] theorem fn2 : P.fn 2 = some c2 := rfl
@[simp] theorem fn5 : P.fn 5 = some c5 := rfl
@[simp] theorem fn7 : P.fn 7 = some c7 := rfl
@[simp] theorem fn10 : P.fn 10 = some c10 := rfl
@[simp] theorem fn12 : P.fn 12 = some c12 := rfl
@[simp] theorem fn17 : P.fn 17 = some c17 := rfl
@[simp] theorem fn19 : P.fn 19 = some c19 := rfl
@[simp] theorem fn22 : P.fn 22 = some c22 := rfl
@[simp] theorem fn24 : P.fn 24 = some c24 := rfl
@[simp] theorem fn27 : P.fn 27 = some c27 := rfl
@[simp] theorem fn29 : P.fn 29 = some c29 := rfl
@[simp] theorem fn39 : P.fn 39 = some c39 := rfl
@[simp] theorem fn43 : P.fn 43 = some c43 := rfl
@[simp] theorem fn47 : P.fn 47 = some c47 := rfl
@[simp] theorem fn48 : P.fn 48 = some c48 := rfl
@[simp] theorem fn49 : P.fn 49 = some c49 := rfl
@[simp] theorem fn50 : P.fn 50 = some c50 := rfl
@[simp] theorem fn51 : P.fn 51 = some c51 := rfl
@[simp] theorem fn52 : P.fn 52 = some c52 := rfl
@[simp] theorem fn53 : P.fn 53 = some c53 := rfl
@[simp] theorem fn54 : P.fn 54 = some c54 := rfl
@[simp] theorem fn55 : P.fn 55 = some c55 := rfl
@[simp] theorem fn58 : P.fn 58 = some c58 := rfl
@[simp] theorem fn71 : P.fn 71 = some c71 := rfl
@[simp] theorem fn81 : P.fn 81 = some c81 := rfl
@[simp] theorem fn83 : P.fn 83 = some c83 := rfl
@[simp] theorem fn84 : P.fn 84 = some c84 := rfl
@[simp] theorem fn86 : P.fn 86 = some c86 := rfl
@[simp] theorem fn95 : P.fn 95 = some c95 := rfl
@[simp] theorem fn96 : P.fn 96 = some c96 := rfl
@[simp] theorem fn99 : P.fn 99 = some c99 := rfl
@[simp] theorem fn100 : P.fn 100 = some c100 := rfl
@[simp] theorem fn101 : P.fn 101 = some c101 := rfl
@[simp] theorem fn102 : P.fn 102 = some c102 := rfl
@[simp] theorem fn105 : P.fn 105 = some c105 := rfl
@[simp] theorem fn107 : P.fn 107 = some c107 := rfl
@[simp] theorem fn108 : P.fn 108 = some c108 := rfl
@[simp] theorem fn110 : P.fn 110 = some c110 := rfl
@[simp] theorem fn111 : P.fn 111 = some c111 := rfl
@[simp] theorem fn115 : P.fn 115 = some c115 := rfl
@[simp] theorem fn123 : P.fn 123 = some c123 := rfl
@[simp] theorem fn124 : P.fn 124 = some c124 := rfl
@[simp] theorem fn125 : P.fn 125 = some c125 := rfl
@[simp] theorem fn126 : P.fn 126 = some c126 := rfl
@[simp] theorem fn127 : P.fn 127 = some c127 := rfl
@[simp] theorem fn128 : P.fn 128 = some c128 := rfl
@[simp] theorem fn129 : P.fn 129 = some c129 := rfl
@[simp] theorem fn130 : P.fn 130 = some c130 := rfl
@[simp] theorem fn131 : P.fn 131 = some c131 := rfl
@[simp] theorem fn132 : P.fn 132 = some c132 := rfl
@[simp] theorem fn133 : P.fn 133 = some c133 := rfl
@[simp] theorem fn150 : P.fn 150 = some c150 := rfl
@[simp] theorem fn151 : P.fn 151 = some c151 := rfl
@[simp] theorem fn154 : P.fn 154 = some c154 := rfl
@[simp] theorem fn175 : P.fn 175 = some c175 := rfl
end Go.Proofs.Ytojihfiloldkgaa
