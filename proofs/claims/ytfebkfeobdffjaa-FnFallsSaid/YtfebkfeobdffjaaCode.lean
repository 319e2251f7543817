/- The abstract code of the program's functions, printed by a program of ours out of Lean's own print of the translation. -/
import Derived.Test.YtfebkfeobdffjaaAv
namespace Go.Proofs.Ytfebkfeobdffjaa
open Go
-- impl.MateAlive
def c1 : CFn := ⟨16, [.tmp 2],
  (.seq (.region [
    ⟨some 1, .box (.tmp 0), none⟩,
    ⟨some 2, .mov (.const (.bool false)), none⟩] [1])
  (.seq (.region [
    ⟨some 3, .faddr (.tmp 1) 7, none⟩,
    ⟨some 4, .load (.tmp 3) 1 false .plain, none⟩,
    ⟨some 5, .bin .eql (.tmp 4) (.const (.int .i64 3)), none⟩,
    ⟨some 6, .mov (.tmp 5), none⟩,
    ⟨some 7, .faddr (.tmp 1) 7, some (6, false)⟩,
    ⟨some 8, .load (.tmp 7) 1 false .plain, some (6, false)⟩,
    ⟨some 9, .bin .eql (.tmp 8) (.const (.int .i64 4)), some (6, false)⟩,
    ⟨some 10, .pick (.tmp 6) (.const (.bool true)) (.tmp 9), none⟩,
    ⟨some 11, .mov (.tmp 10), none⟩,
    ⟨some 12, .faddr (.tmp 1) 7, some (11, false)⟩,
    ⟨some 13, .load (.tmp 12) 1 false .plain, some (11, false)⟩,
    ⟨some 14, .bin .eql (.tmp 13) (.const (.int .i64 6)), some (11, false)⟩,
    ⟨some 15, .pick (.tmp 11) (.const (.bool true)) (.tmp 14), none⟩,
    ⟨some 2, .mov (.tmp 15), none⟩] [2])
  .ret))⟩
-- spec.MateAlive
def c2 : CFn := ⟨16, [.tmp 2],
  (.seq (.region [
    ⟨some 1, .box (.tmp 0), none⟩,
    ⟨some 2, .mov (.const (.bool false)), none⟩] [1])
  (.seq (.region [
    ⟨some 3, .faddr (.tmp 1) 7, none⟩,
    ⟨some 4, .load (.tmp 3) 1 false .plain, none⟩,
    ⟨some 5, .bin .eql (.tmp 4) (.const (.int .i64 3)), none⟩,
    ⟨some 6, .mov (.tmp 5), none⟩,
    ⟨some 7, .faddr (.tmp 1) 7, some (6, false)⟩,
    ⟨some 8, .load (.tmp 7) 1 false .plain, some (6, false)⟩,
    ⟨some 9, .bin .eql (.tmp 8) (.const (.int .i64 4)), some (6, false)⟩,
    ⟨some 10, .pick (.tmp 6) (.const (.bool true)) (.tmp 9), none⟩,
    ⟨some 11, .mov (.tmp 10), none⟩,
    ⟨some 12, .faddr (.tmp 1) 7, some (11, false)⟩,
    ⟨some 13, .load (.tmp 12) 1 false .plain, some (11, false)⟩,
    ⟨some 14, .bin .eql (.tmp 13) (.const (.int .i64 6)), some (11, false)⟩,
    ⟨some 15, .pick (.tmp 11) (.const (.bool true)) (.tmp 14), none⟩,
    ⟨some 2, .mov (.tmp 15), none⟩] [2])
  .ret))⟩
-- impl.MateWantsOk
def c6b0 : CCode := (.seq (.region [
    ⟨some 10, .bin .lss (.tmp 9) (.tmp 8), none⟩] [0, 3, 7, 8, 9, 10])
  (.seq (.cond (.tmp 10)
    .skip
    (.exit 0))
  (.seq (.block 1
    (.seq (.region [
      ⟨some 11, .mov (.tmp 9), none⟩,
      ⟨some 12, .iaddr 7 (.tmp 7) (.tmp 9), none⟩,
      ⟨some 13, .load (.tmp 12) 7 true .plain, none⟩,
      ⟨some 5, .alloc [.str ⟨#[]⟩, .int .i64 0, .str ⟨#[]⟩, .int .i64 0, .int .i64 0, .int .i64 0, .int .i64 0], none⟩,
      ⟨some 4, .mov (.tmp 11), none⟩,
      ⟨none, .store (.tmp 5) (.tmp 13) 7, none⟩] [0, 3, 4, 5, 7, 8, 9])
    (.seq (.seq (.quiet [
      ⟨some 14, .load (.tmp 5) 7 true .plain, none⟩,
      ⟨some 15, .call 82 [false] [.tmp 14], none⟩,
      ⟨some 16, .un .not (.tmp 15), none⟩,
      ⟨some 17, .mov (.tmp 16), none⟩,
      ⟨some 18, .mov (.tmp 4), some (17, false)⟩,
      ⟨some 19, .bin .gtr (.tmp 18) (.const (.int .i64 0)), some (17, false)⟩,
      ⟨some 20, .mov (.tmp 19), some (17, false)⟩,
      ⟨some 21, .mov (.tmp 0), some (20, true)⟩,
      ⟨some 22, .mov (.tmp 4), some (20, true)⟩,
      ⟨some 23, .bin .sub (.tmp 22) (.const (.int .i64 1)), some (20, true)⟩,
      ⟨some 24, .iaddr 7 (.tmp 21) (.tmp 23), some (20, true)⟩,
      ⟨some 25, .faddr (.tmp 24) 0, some (20, true)⟩,
      ⟨some 26, .load (.tmp 25) 1 false .plain, some (20, true)⟩,
      ⟨some 27, .faddr (.tmp 5) 0, some (20, true)⟩,
      ⟨some 28, .load (.tmp 27) 1 false .plain, some (20, true)⟩,
      ⟨some 29, .bin .geq (.tmp 26) (.tmp 28), some (20, true)⟩,
      ⟨some 30, .pick (.tmp 20) (.tmp 29) (.const (.bool false)), some (17, false)⟩,
      ⟨some 31, .pick (.tmp 17) (.const (.bool true)) (.tmp 30), none⟩,
      ⟨some 32, .mov (.tmp 31), none⟩,
      ⟨some 33, .faddr (.tmp 5) 2, some (32, false)⟩,
      ⟨some 34, .load (.tmp 33) 1 false .plain, some (32, false)⟩,
      ⟨some 35, .bin .neq (.tmp 34) (.const (.str ⟨#[]⟩)), some (32, false)⟩,
      ⟨some 36, .mov (.tmp 35), some (32, false)⟩,
      ⟨some 37, .mov (.tmp 3), some (36, true)⟩,
      ⟨some 38, .faddr (.tmp 5) 2, some (36, true)⟩,
      ⟨some 39, .load (.tmp 38) 1 false .plain, some (36, true)⟩,
      ⟨some 40, .lookup false (.bool false) (.tmp 37) (.tmp 39), some (36, true)⟩,
      ⟨some 41, .pick (.tmp 36) (.tmp 40) (.const (.bool false)), some (32, false)⟩,
      ⟨some 42, .pick (.tmp 32) (.const (.bool true)) (.tmp 41), none⟩] [0, 3, 5, 7, 8, 9, 42])
    (.cond (.tmp 42)
      (.seq (.region [
        ⟨some 2, .mov (.const (.bool false)), none⟩] [2])
      .ret)
      .skip))
    (.region [
      ⟨some 43, .mov (.tmp 3), none⟩,
      ⟨some 44, .faddr (.tmp 5) 2, none⟩,
      ⟨some 45, .load (.tmp 44) 1 false .plain, none⟩,
      ⟨none, .mapset false (.tmp 43) (.tmp 45) (.const (.bool true)), none⟩] [0, 3, 7, 8, 9]))))
  (.region [
    ⟨some 46, .bin .add (.tmp 9) (.const (.int .i64 1)), none⟩,
    ⟨some 9, .mov (.tmp 46), none⟩] [0, 3, 7, 8, 9]))))
def c6 : CFn := ⟨50, [.tmp 2],
  (.seq (.region [
    ⟨some 2, .mov (.const (.bool false)), none⟩] [0])
  (.seq (.region [
    ⟨some 6, .mkmap false, none⟩,
    ⟨some 3, .mov (.tmp 6), none⟩] [0, 3])
  (.seq (.seq (.region [
    ⟨some 7, .mov (.tmp 0), none⟩,
    ⟨some 8, .len false (.tmp 7), none⟩,
    ⟨some 9, .mov (.const (.int .i64 0)), none⟩] [0, 3, 7, 8, 9])
  (.block 0
    (.loop [0, 3, 7, 8, 9] c6b0)))
  (.seq (.region [
    ⟨some 47, .mov (.tmp 0), none⟩,
    ⟨some 48, .len false (.tmp 47), none⟩,
    ⟨some 49, .bin .leq (.tmp 48) (.const (.int .i64 10)), none⟩,
    ⟨some 2, .mov (.tmp 49), none⟩] [2])
  .ret))))⟩
-- spec.MateWantsOk
def c7b0 : CCode := (.seq (.seq (.region [
    ⟨some 38, .mov (.tmp 4), none⟩,
    ⟨some 39, .mov (.tmp 3), none⟩,
    ⟨some 40, .bin .lss (.tmp 38) (.tmp 39), none⟩] [0, 3, 4, 40])
  (.cond (.tmp 40)
    .skip
    (.exit 2)))
  (.seq (.block 3
    (.seq (.quiet [
      ⟨some 43, .mov (.tmp 0), none⟩,
      ⟨some 44, .mov (.tmp 3), none⟩,
      ⟨some 45, .iaddr 7 (.tmp 43) (.tmp 44), none⟩,
      ⟨some 46, .faddr (.tmp 45) 2, none⟩,
      ⟨some 47, .load (.tmp 46) 1 false .plain, none⟩,
      ⟨some 48, .bin .neq (.tmp 47) (.const (.str ⟨#[]⟩)), none⟩,
      ⟨some 49, .mov (.tmp 48), none⟩,
      ⟨some 50, .mov (.tmp 0), some (49, true)⟩,
      ⟨some 51, .mov (.tmp 4), some (49, true)⟩,
      ⟨some 52, .iaddr 7 (.tmp 50) (.tmp 51), some (49, true)⟩,
      ⟨some 53, .faddr (.tmp 52) 2, some (49, true)⟩,
      ⟨some 54, .load (.tmp 53) 1 false .plain, some (49, true)⟩,
      ⟨some 55, .mov (.tmp 0), some (49, true)⟩,
      ⟨some 56, .mov (.tmp 3), some (49, true)⟩,
      ⟨some 57, .iaddr 7 (.tmp 55) (.tmp 56), some (49, true)⟩,
      ⟨some 58, .faddr (.tmp 57) 2, some (49, true)⟩,
      ⟨some 59, .load (.tmp 58) 1 false .plain, some (49, true)⟩,
      ⟨some 60, .bin .eql (.tmp 54) (.tmp 59), some (49, true)⟩,
      ⟨some 61, .pick (.tmp 49) (.tmp 60) (.const (.bool false)), none⟩] [0, 3, 4, 61])
    (.cond (.tmp 61)
      (.seq (.region [
        ⟨some 2, .mov (.const (.bool false)), none⟩] [2])
      .ret)
      .skip)))
  (.region [
    ⟨some 41, .mov (.tmp 4), none⟩,
    ⟨some 42, .bin .add (.tmp 41) (.const (.int .i64 1)), none⟩,
    ⟨some 4, .mov (.tmp 42), none⟩] [0, 3, 4])))
def c7b1 : CCode := (.seq (.seq (.region [
    ⟨some 8, .mov (.tmp 3), none⟩,
    ⟨some 9, .mov (.tmp 0), none⟩,
    ⟨some 10, .len false (.tmp 9), none⟩,
    ⟨some 11, .bin .lss (.tmp 8) (.tmp 10), none⟩] [0, 3, 11])
  (.cond (.tmp 11)
    .skip
    (.exit 0)))
  (.seq (.block 1
    (.seq (.seq (.quiet [
      ⟨some 14, .mov (.tmp 0), none⟩,
      ⟨some 15, .mov (.tmp 3), none⟩,
      ⟨some 16, .iaddr 7 (.tmp 14) (.tmp 15), none⟩,
      ⟨some 17, .load (.tmp 16) 7 true .plain, none⟩,
      ⟨some 18, .call 81 [false] [.tmp 17], none⟩,
      ⟨some 19, .un .not (.tmp 18), none⟩,
      ⟨some 20, .mov (.tmp 19), none⟩,
      ⟨some 21, .mov (.tmp 3), some (20, false)⟩,
      ⟨some 22, .bin .gtr (.tmp 21) (.const (.int .i64 0)), some (20, false)⟩,
      ⟨some 23, .mov (.tmp 22), some (20, false)⟩,
      ⟨some 24, .mov (.tmp 0), some (23, true)⟩,
      ⟨some 25, .mov (.tmp 3), some (23, true)⟩,
      ⟨some 26, .bin .sub (.tmp 25) (.const (.int .i64 1)), some (23, true)⟩,
      ⟨some 27, .iaddr 7 (.tmp 24) (.tmp 26), some (23, true)⟩,
      ⟨some 28, .faddr (.tmp 27) 0, some (23, true)⟩,
      ⟨some 29, .load (.tmp 28) 1 false .plain, some (23, true)⟩,
      ⟨some 30, .mov (.tmp 0), some (23, true)⟩,
      ⟨some 31, .mov (.tmp 3), some (23, true)⟩,
      ⟨some 32, .iaddr 7 (.tmp 30) (.tmp 31), some (23, true)⟩,
      ⟨some 33, .faddr (.tmp 32) 0, some (23, true)⟩,
      ⟨some 34, .load (.tmp 33) 1 false .plain, some (23, true)⟩,
      ⟨some 35, .bin .geq (.tmp 29) (.tmp 34), some (23, true)⟩,
      ⟨some 36, .pick (.tmp 23) (.tmp 35) (.const (.bool false)), some (20, false)⟩,
      ⟨some 37, .pick (.tmp 20) (.const (.bool true)) (.tmp 36), none⟩] [0, 3, 37])
    (.cond (.tmp 37)
      (.seq (.region [
        ⟨some 2, .mov (.const (.bool false)), none⟩] [2])
      .ret)
      .skip))
    (.seq (.region [
      ⟨some 4, .mov (.const (.int .i64 0)), none⟩] [0, 3, 4])
    (.block 2
      (.loop [0, 3, 4] c7b0)))))
  (.region [
    ⟨some 12, .mov (.tmp 3), none⟩,
    ⟨some 13, .bin .add (.tmp 12) (.const (.int .i64 1)), none⟩,
    ⟨some 3, .mov (.tmp 13), none⟩] [0, 3])))
def c7 : CFn := ⟨62, [.tmp 2],
  (.seq (.region [
    ⟨some 2, .mov (.const (.bool false)), none⟩] [0])
  (.seq (.seq (.region [
    ⟨some 5, .mov (.tmp 0), none⟩,
    ⟨some 6, .len false (.tmp 5), none⟩,
    ⟨some 7, .bin .gtr (.tmp 6) (.const (.int .i64 10)), none⟩] [0, 7])
  (.cond (.tmp 7)
    (.seq (.region [
      ⟨some 2, .mov (.const (.bool false)), none⟩] [2])
    .ret)
    .skip))
  (.seq (.seq (.region [
    ⟨some 3, .mov (.const (.int .i64 0)), none⟩] [0, 3])
  (.block 0
    (.loop [0, 3] c7b1)))
  (.seq (.region [
    ⟨some 2, .mov (.const (.bool true)), none⟩] [2])
  .ret))))⟩
-- impl.MateRunsOk
def c11b0 : CCode := (.seq (.region [
    ⟨some 13, .bin .lss (.tmp 12) (.tmp 11), none⟩] [0, 1, 10, 11, 12, 13])
  (.seq (.cond (.tmp 13)
    .skip
    (.exit 0))
  (.seq (.block 1
    (.seq (.region [
      ⟨some 14, .mov (.tmp 12), none⟩,
      ⟨some 15, .iaddr 11 (.tmp 10) (.tmp 12), none⟩,
      ⟨some 16, .load (.tmp 15) 11 true .plain, none⟩,
      ⟨some 6, .alloc [.str ⟨#[]⟩, .int .i64 0, .str ⟨#[]⟩, .int .i64 0, .int .i64 0, .int .i64 0, .int .i64 0, .int .i64 0, .int .i64 0, .int .i64 0, .int .i64 0], none⟩,
      ⟨some 5, .mov (.tmp 14), none⟩,
      ⟨none, .store (.tmp 6) (.tmp 16) 11, none⟩] [0, 1, 5, 6, 10, 11, 12])
    (.seq (.seq (.quiet [
      ⟨some 17, .faddr (.tmp 6) 0, none⟩,
      ⟨some 18, .load (.tmp 17) 7 true .plain, none⟩,
      ⟨some 19, .call 82 [false] [.tmp 18], none⟩,
      ⟨some 20, .un .not (.tmp 19), none⟩,
      ⟨some 21, .mov (.tmp 20), none⟩,
      ⟨some 22, .mov (.tmp 5), some (21, false)⟩,
      ⟨some 23, .bin .gtr (.tmp 22) (.const (.int .i64 0)), some (21, false)⟩,
      ⟨some 24, .mov (.tmp 23), some (21, false)⟩,
      ⟨some 25, .mov (.tmp 0), some (24, true)⟩,
      ⟨some 26, .mov (.tmp 5), some (24, true)⟩,
      ⟨some 27, .bin .sub (.tmp 26) (.const (.int .i64 1)), some (24, true)⟩,
      ⟨some 28, .iaddr 11 (.tmp 25) (.tmp 27), some (24, true)⟩,
      ⟨some 29, .faddr (.tmp 28) 0, some (24, true)⟩,
      ⟨some 30, .faddr (.tmp 29) 0, some (24, true)⟩,
      ⟨some 31, .load (.tmp 30) 1 false .plain, some (24, true)⟩,
      ⟨some 32, .faddr (.tmp 6) 0, some (24, true)⟩,
      ⟨some 33, .faddr (.tmp 32) 0, some (24, true)⟩,
      ⟨some 34, .load (.tmp 33) 1 false .plain, some (24, true)⟩,
      ⟨some 35, .bin .geq (.tmp 31) (.tmp 34), some (24, true)⟩,
      ⟨some 36, .pick (.tmp 24) (.tmp 35) (.const (.bool false)), some (21, false)⟩,
      ⟨some 37, .pick (.tmp 21) (.const (.bool true)) (.tmp 36), none⟩,
      ⟨some 38, .mov (.tmp 37), none⟩,
      ⟨some 39, .faddr (.tmp 6) 7, some (38, false)⟩,
      ⟨some 40, .load (.tmp 39) 1 false .plain, some (38, false)⟩,
      ⟨some 41, .call 85 [false, false, false] [.tmp 40, .const (.int .i64 1), .const (.int .i64 6)], some (38, false)⟩,
      ⟨some 42, .un .not (.tmp 41), some (38, false)⟩,
      ⟨some 43, .pick (.tmp 38) (.const (.bool true)) (.tmp 42), none⟩,
      ⟨some 44, .mov (.tmp 43), none⟩,
      ⟨some 45, .faddr (.tmp 6) 8, some (44, false)⟩,
      ⟨some 46, .load (.tmp 45) 1 false .plain, some (44, false)⟩,
      ⟨some 47, .call 85 [false, false, false] [.tmp 46, .const (.int .i64 0), .const (.int .i64 100)], some (44, false)⟩,
      ⟨some 48, .un .not (.tmp 47), some (44, false)⟩,
      ⟨some 49, .pick (.tmp 44) (.const (.bool true)) (.tmp 48), none⟩,
      ⟨some 50, .mov (.tmp 49), none⟩,
      ⟨some 51, .faddr (.tmp 6) 7, some (50, false)⟩,
      ⟨some 52, .load (.tmp 51) 1 false .plain, some (50, false)⟩,
      ⟨some 53, .bin .eql (.tmp 52) (.const (.int .i64 2)), some (50, false)⟩,
      ⟨some 54, .mov (.tmp 53), some (50, false)⟩,
      ⟨some 55, .faddr (.tmp 6) 8, some (54, true)⟩,
      ⟨some 56, .load (.tmp 55) 1 false .plain, some (54, true)⟩,
      ⟨some 57, .bin .neq (.tmp 56) (.const (.int .i64 0)), some (54, true)⟩,
      ⟨some 58, .pick (.tmp 54) (.tmp 57) (.const (.bool false)), some (50, false)⟩,
      ⟨some 59, .pick (.tmp 50) (.const (.bool true)) (.tmp 58), none⟩,
      ⟨some 60, .mov (.tmp 59), none⟩,
      ⟨some 61, .faddr (.tmp 6) 9, some (60, false)⟩,
      ⟨some 62, .load (.tmp 61) 1 false .plain, some (60, false)⟩,
      ⟨some 63, .call 85 [false, false, false] [.tmp 62, .const (.int .i64 0), .const (.int .i64 1000)], some (60, false)⟩,
      ⟨some 64, .un .not (.tmp 63), some (60, false)⟩,
      ⟨some 65, .pick (.tmp 60) (.const (.bool true)) (.tmp 64), none⟩,
      ⟨some 66, .mov (.tmp 65), none⟩,
      ⟨some 67, .faddr (.tmp 6) 10, some (66, false)⟩,
      ⟨some 68, .load (.tmp 67) 1 false .plain, some (66, false)⟩,
      ⟨some 69, .call 85 [false, false, false] [.tmp 68, .const (.int .i64 0), .const (.int .i64 1000016)], some (66, false)⟩,
      ⟨some 70, .un .not (.tmp 69), some (66, false)⟩,
      ⟨some 71, .pick (.tmp 66) (.const (.bool true)) (.tmp 70), none⟩] [0, 1, 6, 10, 11, 12, 71])
    (.cond (.tmp 71)
      (.seq (.region [
        ⟨some 4, .mov (.const (.bool false)), none⟩] [4])
      .ret)
      .skip))
    (.seq (.region [
      ⟨some 72, .faddr (.tmp 6) 0, none⟩,
      ⟨some 73, .faddr (.tmp 72) 2, none⟩,
      ⟨some 74, .load (.tmp 73) 1 false .plain, none⟩,
      ⟨some 75, .bin .eql (.tmp 74) (.const (.str ⟨#[]⟩)), none⟩,
      ⟨some 76, .mov (.tmp 75), none⟩,
      ⟨some 77, .faddr (.tmp 6) 10, some (76, true)⟩,
      ⟨some 78, .load (.tmp 77) 1 false .plain, some (76, true)⟩,
      ⟨some 79, .bin .neq (.tmp 78) (.const (.int .i64 0)), some (76, true)⟩,
      ⟨some 80, .pick (.tmp 76) (.tmp 79) (.const (.bool false)), none⟩,
      ⟨some 81, .mov (.tmp 80), none⟩,
      ⟨some 82, .faddr (.tmp 6) 0, some (81, false)⟩,
      ⟨some 83, .faddr (.tmp 82) 2, some (81, false)⟩,
      ⟨some 84, .load (.tmp 83) 1 false .plain, some (81, false)⟩,
      ⟨some 85, .bin .neq (.tmp 84) (.const (.str ⟨#[]⟩)), some (81, false)⟩,
      ⟨some 86, .mov (.tmp 85), some (81, false)⟩,
      ⟨some 87, .load (.tmp 6) 11 true .plain, some (86, true)⟩,
      ⟨some 88, .call 1 [false] [.tmp 87], some (86, true)⟩,
      ⟨some 89, .pick (.tmp 86) (.tmp 88) (.const (.bool false)), some (81, false)⟩,
      ⟨some 90, .mov (.tmp 89), some (81, false)⟩,
      ⟨some 91, .faddr (.tmp 6) 10, some (90, true)⟩,
      ⟨some 92, .load (.tmp 91) 1 false .plain, some (90, true)⟩,
      ⟨some 93, .mov (.tmp 1), some (90, true)⟩,
      ⟨some 94, .bin .add (.tmp 93) (.const (.int .i64 4)), some (90, true)⟩,
      ⟨some 95, .bin .lss (.tmp 92) (.tmp 94), some (90, true)⟩,
      ⟨some 96, .pick (.tmp 90) (.tmp 95) (.const (.bool false)), some (81, false)⟩,
      ⟨some 97, .pick (.tmp 81) (.const (.bool true)) (.tmp 96), none⟩] [0, 1, 10, 11, 12, 97])
    (.cond (.tmp 97)
      (.seq (.region [
        ⟨some 4, .mov (.const (.bool false)), none⟩] [4])
      .ret)
      .skip)))))
  (.region [
    ⟨some 98, .bin .add (.tmp 12) (.const (.int .i64 1)), none⟩,
    ⟨some 12, .mov (.tmp 98), none⟩] [0, 1, 10, 11, 12]))))
def c11 : CFn := ⟨99, [.tmp 4],
  (.seq (.region [
    ⟨some 4, .mov (.const (.bool false)), none⟩] [0, 1])
  (.seq (.seq (.region [
    ⟨some 7, .mov (.tmp 0), none⟩,
    ⟨some 8, .len false (.tmp 7), none⟩,
    ⟨some 9, .bin .gtr (.tmp 8) (.const (.int .i64 20)), none⟩] [0, 1, 9])
  (.cond (.tmp 9)
    (.seq (.region [
      ⟨some 4, .mov (.const (.bool false)), none⟩] [4])
    .ret)
    .skip))
  (.seq (.seq (.region [
    ⟨some 10, .mov (.tmp 0), none⟩,
    ⟨some 11, .len false (.tmp 10), none⟩,
    ⟨some 12, .mov (.const (.int .i64 0)), none⟩] [0, 1, 10, 11, 12])
  (.block 0
    (.loop [0, 1, 10, 11, 12] c11b0)))
  (.seq (.region [
    ⟨some 4, .mov (.const (.bool true)), none⟩] [4])
  .ret))))⟩
-- spec.MateRunsOk
def c12b0 : CCode := (.seq (.seq (.region [
    ⟨some 9, .mov (.tmp 5), none⟩,
    ⟨some 10, .mov (.tmp 0), none⟩,
    ⟨some 11, .len false (.tmp 10), none⟩,
    ⟨some 12, .bin .lss (.tmp 9) (.tmp 11), none⟩] [0, 1, 5, 12])
  (.cond (.tmp 12)
    .skip
    (.exit 0)))
  (.seq (.block 1
    (.seq (.quiet [
      ⟨some 15, .mov (.tmp 0), none⟩,
      ⟨some 16, .mov (.tmp 5), none⟩,
      ⟨some 17, .iaddr 11 (.tmp 15) (.tmp 16), none⟩,
      ⟨some 18, .load (.tmp 17) 11 true .plain, none⟩,
      ⟨some 19, .mov (.tmp 1), none⟩,
      ⟨some 20, .call 84 [false, false] [.tmp 18, .tmp 19], none⟩,
      ⟨some 21, .un .not (.tmp 20), none⟩,
      ⟨some 22, .mov (.tmp 21), none⟩,
      ⟨some 23, .mov (.tmp 5), some (22, false)⟩,
      ⟨some 24, .bin .gtr (.tmp 23) (.const (.int .i64 0)), some (22, false)⟩,
      ⟨some 25, .mov (.tmp 24), some (22, false)⟩,
      ⟨some 26, .mov (.tmp 0), some (25, true)⟩,
      ⟨some 27, .mov (.tmp 5), some (25, true)⟩,
      ⟨some 28, .bin .sub (.tmp 27) (.const (.int .i64 1)), some (25, true)⟩,
      ⟨some 29, .iaddr 11 (.tmp 26) (.tmp 28), some (25, true)⟩,
      ⟨some 30, .faddr (.tmp 29) 0, some (25, true)⟩,
      ⟨some 31, .faddr (.tmp 30) 0, some (25, true)⟩,
      ⟨some 32, .load (.tmp 31) 1 false .plain, some (25, true)⟩,
      ⟨some 33, .mov (.tmp 0), some (25, true)⟩,
      ⟨some 34, .mov (.tmp 5), some (25, true)⟩,
      ⟨some 35, .iaddr 11 (.tmp 33) (.tmp 34), some (25, true)⟩,
      ⟨some 36, .faddr (.tmp 35) 0, some (25, true)⟩,
      ⟨some 37, .faddr (.tmp 36) 0, some (25, true)⟩,
      ⟨some 38, .load (.tmp 37) 1 false .plain, some (25, true)⟩,
      ⟨some 39, .bin .geq (.tmp 32) (.tmp 38), some (25, true)⟩,
      ⟨some 40, .pick (.tmp 25) (.tmp 39) (.const (.bool false)), some (22, false)⟩,
      ⟨some 41, .pick (.tmp 22) (.const (.bool true)) (.tmp 40), none⟩] [0, 1, 5, 41])
    (.cond (.tmp 41)
      (.seq (.region [
        ⟨some 4, .mov (.const (.bool false)), none⟩] [4])
      .ret)
      .skip)))
  (.region [
    ⟨some 13, .mov (.tmp 5), none⟩,
    ⟨some 14, .bin .add (.tmp 13) (.const (.int .i64 1)), none⟩,
    ⟨some 5, .mov (.tmp 14), none⟩] [0, 1, 5])))
def c12 : CFn := ⟨42, [.tmp 4],
  (.seq (.region [
    ⟨some 4, .mov (.const (.bool false)), none⟩] [0, 1])
  (.seq (.seq (.region [
    ⟨some 6, .mov (.tmp 0), none⟩,
    ⟨some 7, .len false (.tmp 6), none⟩,
    ⟨some 8, .bin .gtr (.tmp 7) (.const (.int .i64 20)), none⟩] [0, 1, 8])
  (.cond (.tmp 8)
    (.seq (.region [
      ⟨some 4, .mov (.const (.bool false)), none⟩] [4])
    .ret)
    .skip))
  (.seq (.seq (.region [
    ⟨some 5, .mov (.const (.int .i64 0)), none⟩] [0, 1, 5])
  (.block 0
    (.loop [0, 1, 5] c12b0)))
  (.seq (.region [
    ⟨some 4, .mov (.const (.bool true)), none⟩] [4])
  .ret))))⟩
-- impl.MateValid
def c28b0 : CCode := (.seq (.region [
    ⟨some 68, .bin .lss (.tmp 67) (.tmp 66), none⟩] [1, 65, 66, 67, 68])
  (.seq (.cond (.tmp 68)
    .skip
    (.exit 0))
  (.seq (.block 1
    (.seq (.region [
      ⟨some 69, .iaddr 4 (.tmp 65) (.tmp 67), none⟩,
      ⟨some 70, .load (.tmp 69) 4 true .plain, none⟩,
      ⟨some 4, .alloc [.str ⟨#[]⟩, .str ⟨#[]⟩, .int .i64 0, .int .i64 0], none⟩,
      ⟨none, .store (.tmp 4) (.tmp 70) 4, none⟩] [1, 4, 65, 66, 67])
    (.seq (.region [
      ⟨some 71, .faddr (.tmp 1) 8, none⟩,
      ⟨some 72, .load (.tmp 71) 1 false .plain, none⟩,
      ⟨some 73, .faddr (.tmp 4) 0, none⟩,
      ⟨some 74, .load (.tmp 73) 1 false .plain, none⟩,
      ⟨some 75, .call 113 [false, false] [.tmp 72, .tmp 74], none⟩,
      ⟨some 76, .bin .geq (.tmp 75) (.const (.int .i64 0)), none⟩] [1, 65, 66, 67, 76])
    (.cond (.tmp 76)
      (.seq (.region [
        ⟨some 2, .mov (.const (.bool false)), none⟩] [2])
      .ret)
      .skip))))
  (.region [
    ⟨some 77, .bin .add (.tmp 67) (.const (.int .i64 1)), none⟩,
    ⟨some 67, .mov (.tmp 77), none⟩] [1, 65, 66, 67]))))
def c28b1 : CCode := (.seq (.region [
    ⟨some 102, .bin .lss (.tmp 101) (.tmp 100), none⟩] [99, 100, 101, 102])
  (.seq (.cond (.tmp 102)
    .skip
    (.exit 2))
  (.seq (.block 3
    (.seq (.region [
      ⟨some 103, .iaddr 11 (.tmp 99) (.tmp 101), none⟩,
      ⟨some 104, .load (.tmp 103) 11 true .plain, none⟩,
      ⟨some 6, .alloc [.str ⟨#[]⟩, .int .i64 0, .str ⟨#[]⟩, .int .i64 0, .int .i64 0, .int .i64 0, .int .i64 0, .int .i64 0, .int .i64 0, .int .i64 0, .int .i64 0], none⟩,
      ⟨none, .store (.tmp 6) (.tmp 104) 11, none⟩] [6, 99, 100, 101])
    (.seq (.region [
      ⟨some 105, .load (.tmp 6) 11 true .plain, none⟩,
      ⟨some 106, .call 1 [false] [.tmp 105], none⟩,
      ⟨some 107, .un .not (.tmp 106), none⟩,
      ⟨some 108, .mov (.tmp 107), none⟩,
      ⟨some 109, .faddr (.tmp 6) 0, some (108, true)⟩,
      ⟨some 110, .faddr (.tmp 109) 2, some (108, true)⟩,
      ⟨some 111, .load (.tmp 110) 1 false .plain, some (108, true)⟩,
      ⟨some 112, .bin .eql (.tmp 111) (.const (.str ⟨#[]⟩)), some (108, true)⟩,
      ⟨some 113, .pick (.tmp 108) (.tmp 112) (.const (.bool false)), none⟩] [99, 100, 101, 113])
    (.cond (.tmp 113)
      (.seq (.region [
        ⟨some 2, .mov (.const (.bool false)), none⟩] [2])
      .ret)
      .skip))))
  (.region [
    ⟨some 114, .bin .add (.tmp 101) (.const (.int .i64 1)), none⟩,
    ⟨some 101, .mov (.tmp 114), none⟩] [99, 100, 101]))))
def c28 : CFn := ⟨115, [.tmp 2],
  (.seq (.region [
    ⟨some 1, .box (.tmp 0), none⟩,
    ⟨some 2, .mov (.const (.bool false)), none⟩] [1])
  (.seq (.seq (.region [
    ⟨some 7, .faddr (.tmp 1) 0, none⟩,
    ⟨some 8, .load (.tmp 7) 1 false .plain, none⟩,
    ⟨some 9, .call 105 [false] [.tmp 8], none⟩,
    ⟨some 10, .un .not (.tmp 9), none⟩,
    ⟨some 11, .mov (.tmp 10), none⟩,
    ⟨some 12, .faddr (.tmp 1) 2, some (11, false)⟩,
    ⟨some 13, .load (.tmp 12) 1 false .plain, some (11, false)⟩,
    ⟨some 14, .call 85 [false, false, false] [.tmp 13, .const (.int .i64 0), .const (.int .i64 1000000)], some (11, false)⟩,
    ⟨some 15, .un .not (.tmp 14), some (11, false)⟩,
    ⟨some 16, .pick (.tmp 11) (.const (.bool true)) (.tmp 15), none⟩,
    ⟨some 17, .mov (.tmp 16), none⟩,
    ⟨some 18, .faddr (.tmp 1) 4, some (17, false)⟩,
    ⟨some 19, .load (.tmp 18) 1 false .plain, some (17, false)⟩,
    ⟨some 20, .call 85 [false, false, false] [.tmp 19, .const (.int .i64 0), .const (.int .i64 1000000)], some (17, false)⟩,
    ⟨some 21, .un .not (.tmp 20), some (17, false)⟩,
    ⟨some 22, .pick (.tmp 17) (.const (.bool true)) (.tmp 21), none⟩,
    ⟨some 23, .mov (.tmp 22), none⟩,
    ⟨some 24, .faddr (.tmp 1) 5, some (23, false)⟩,
    ⟨some 25, .load (.tmp 24) 1 false .plain, some (23, false)⟩,
    ⟨some 26, .call 6 [false] [.tmp 25], some (23, false)⟩,
    ⟨some 27, .un .not (.tmp 26), some (23, false)⟩,
    ⟨some 28, .pick (.tmp 23) (.const (.bool true)) (.tmp 27), none⟩,
    ⟨some 29, .mov (.tmp 28), none⟩,
    ⟨some 30, .faddr (.tmp 1) 3, some (29, false)⟩,
    ⟨some 31, .load (.tmp 30) 1 false .plain, some (29, false)⟩,
    ⟨some 32, .un .not (.tmp 31), some (29, false)⟩,
    ⟨some 33, .mov (.tmp 32), some (29, false)⟩,
    ⟨some 34, .faddr (.tmp 1) 5, some (33, true)⟩,
    ⟨some 35, .load (.tmp 34) 1 false .plain, some (33, true)⟩,
    ⟨some 36, .len false (.tmp 35), some (33, true)⟩,
    ⟨some 37, .bin .gtr (.tmp 36) (.const (.int .i64 0)), some (33, true)⟩,
    ⟨some 38, .pick (.tmp 33) (.tmp 37) (.const (.bool false)), some (29, false)⟩,
    ⟨some 39, .pick (.tmp 29) (.const (.bool true)) (.tmp 38), none⟩,
    ⟨some 40, .mov (.tmp 39), none⟩,
    ⟨some 41, .faddr (.tmp 1) 6, some (40, false)⟩,
    ⟨some 42, .load (.tmp 41) 1 false .plain, some (40, false)⟩,
    ⟨some 43, .faddr (.tmp 1) 2, some (40, false)⟩,
    ⟨some 44, .load (.tmp 43) 1 false .plain, some (40, false)⟩,
    ⟨some 45, .call 11 [false, false] [.tmp 42, .tmp 44], some (40, false)⟩,
    ⟨some 46, .un .not (.tmp 45), some (40, false)⟩,
    ⟨some 47, .pick (.tmp 40) (.const (.bool true)) (.tmp 46), none⟩,
    ⟨some 48, .mov (.tmp 47), none⟩,
    ⟨some 49, .faddr (.tmp 1) 7, some (48, false)⟩,
    ⟨some 50, .load (.tmp 49) 1 false .plain, some (48, false)⟩,
    ⟨some 51, .faddr (.tmp 1) 2, some (48, false)⟩,
    ⟨some 52, .load (.tmp 51) 1 false .plain, some (48, false)⟩,
    ⟨some 53, .call 114 [false, false] [.tmp 50, .tmp 52], some (48, false)⟩,
    ⟨some 54, .un .not (.tmp 53), some (48, false)⟩,
    ⟨some 55, .pick (.tmp 48) (.const (.bool true)) (.tmp 54), none⟩,
    ⟨some 56, .mov (.tmp 55), none⟩,
    ⟨some 57, .faddr (.tmp 1) 8, some (56, false)⟩,
    ⟨some 58, .load (.tmp 57) 1 false .plain, some (56, false)⟩,
    ⟨some 59, .faddr (.tmp 1) 2, some (56, false)⟩,
    ⟨some 60, .load (.tmp 59) 1 false .plain, some (56, false)⟩,
    ⟨some 61, .call 114 [false, false] [.tmp 58, .tmp 60], some (56, false)⟩,
    ⟨some 62, .un .not (.tmp 61), some (56, false)⟩,
    ⟨some 63, .pick (.tmp 56) (.const (.bool true)) (.tmp 62), none⟩] [1, 63])
  (.cond (.tmp 63)
    (.seq (.region [
      ⟨some 2, .mov (.const (.bool false)), none⟩] [2])
    .ret)
    .skip))
  (.seq (.seq (.region [
    ⟨some 64, .faddr (.tmp 1) 7, none⟩,
    ⟨some 65, .load (.tmp 64) 1 false .plain, none⟩,
    ⟨some 66, .len false (.tmp 65), none⟩,
    ⟨some 67, .mov (.const (.int .i64 0)), none⟩] [1, 65, 66, 67])
  (.block 0
    (.loop [1, 65, 66, 67] c28b0)))
  (.seq (.seq (.region [
    ⟨some 78, .faddr (.tmp 1) 1, none⟩,
    ⟨some 79, .load (.tmp 78) 1 false .plain, none⟩,
    ⟨some 80, .un .not (.tmp 79), none⟩] [1, 80])
  (.cond (.tmp 80)
    (.seq (.seq (.region [
      ⟨some 81, .faddr (.tmp 1) 3, none⟩,
      ⟨some 82, .load (.tmp 81) 1 false .plain, none⟩,
      ⟨some 83, .mov (.tmp 82), none⟩,
      ⟨some 84, .faddr (.tmp 1) 7, some (83, false)⟩,
      ⟨some 85, .load (.tmp 84) 1 false .plain, some (83, false)⟩,
      ⟨some 86, .len false (.tmp 85), some (83, false)⟩,
      ⟨some 87, .faddr (.tmp 1) 8, some (83, false)⟩,
      ⟨some 88, .load (.tmp 87) 1 false .plain, some (83, false)⟩,
      ⟨some 89, .len false (.tmp 88), some (83, false)⟩,
      ⟨some 90, .bin .add (.tmp 86) (.tmp 89), some (83, false)⟩,
      ⟨some 91, .bin .gtr (.tmp 90) (.const (.int .i64 0)), some (83, false)⟩,
      ⟨some 92, .pick (.tmp 83) (.const (.bool true)) (.tmp 91), none⟩,
      ⟨some 93, .mov (.tmp 92), none⟩,
      ⟨some 94, .faddr (.tmp 1) 4, some (93, false)⟩,
      ⟨some 95, .load (.tmp 94) 1 false .plain, some (93, false)⟩,
      ⟨some 96, .bin .neq (.tmp 95) (.const (.int .i64 0)), some (93, false)⟩,
      ⟨some 97, .pick (.tmp 93) (.const (.bool true)) (.tmp 96), none⟩] [1, 97])
    (.cond (.tmp 97)
      (.seq (.region [
        ⟨some 2, .mov (.const (.bool false)), none⟩] [2])
      .ret)
      .skip))
    (.seq (.region [
      ⟨some 98, .faddr (.tmp 1) 6, none⟩,
      ⟨some 99, .load (.tmp 98) 1 false .plain, none⟩,
      ⟨some 100, .len false (.tmp 99), none⟩,
      ⟨some 101, .mov (.const (.int .i64 0)), none⟩] [99, 100, 101])
    (.block 2
      (.loop [99, 100, 101] c28b1))))
    .skip))
  (.seq (.region [
    ⟨some 2, .mov (.const (.bool true)), none⟩] [2])
  .ret)))))⟩
-- spec.MateValid
def c29b0 : CCode := (.seq (.seq (.region [
    ⟨some 62, .mov (.tmp 3), none⟩,
    ⟨some 63, .faddr (.tmp 1) 7, none⟩,
    ⟨some 64, .load (.tmp 63) 1 false .plain, none⟩,
    ⟨some 65, .len false (.tmp 64), none⟩,
    ⟨some 66, .bin .lss (.tmp 62) (.tmp 65), none⟩] [1, 3, 66])
  (.cond (.tmp 66)
    .skip
    (.exit 0)))
  (.seq (.block 1
    (.seq (.quiet [
      ⟨some 69, .faddr (.tmp 1) 8, none⟩,
      ⟨some 70, .load (.tmp 69) 1 false .plain, none⟩,
      ⟨some 71, .faddr (.tmp 1) 7, none⟩,
      ⟨some 72, .load (.tmp 71) 1 false .plain, none⟩,
      ⟨some 73, .mov (.tmp 3), none⟩,
      ⟨some 74, .iaddr 4 (.tmp 72) (.tmp 73), none⟩,
      ⟨some 75, .faddr (.tmp 74) 0, none⟩,
      ⟨some 76, .load (.tmp 75) 1 false .plain, none⟩,
      ⟨some 77, .call 110 [false, false] [.tmp 70, .tmp 76], none⟩,
      ⟨some 78, .bin .geq (.tmp 77) (.const (.int .i64 0)), none⟩] [1, 3, 78])
    (.cond (.tmp 78)
      (.seq (.region [
        ⟨some 2, .mov (.const (.bool false)), none⟩] [2])
      .ret)
      .skip)))
  (.region [
    ⟨some 67, .mov (.tmp 3), none⟩,
    ⟨some 68, .bin .add (.tmp 67) (.const (.int .i64 1)), none⟩,
    ⟨some 3, .mov (.tmp 68), none⟩] [1, 3])))
def c29b1 : CCode := (.seq (.seq (.region [
    ⟨some 81, .mov (.tmp 4), none⟩,
    ⟨some 82, .faddr (.tmp 1) 6, none⟩,
    ⟨some 83, .load (.tmp 82) 1 false .plain, none⟩,
    ⟨some 84, .len false (.tmp 83), none⟩,
    ⟨some 85, .bin .lss (.tmp 81) (.tmp 84), none⟩] [1, 4, 85])
  (.cond (.tmp 85)
    .skip
    (.exit 2)))
  (.seq (.block 3
    (.seq (.region [
      ⟨some 88, .faddr (.tmp 1) 6, none⟩,
      ⟨some 89, .load (.tmp 88) 1 false .plain, none⟩,
      ⟨some 90, .mov (.tmp 4), none⟩,
      ⟨some 91, .iaddr 11 (.tmp 89) (.tmp 90), none⟩,
      ⟨some 92, .load (.tmp 91) 11 true .plain, none⟩,
      ⟨some 93, .call 2 [false] [.tmp 92], none⟩,
      ⟨some 94, .un .not (.tmp 93), none⟩,
      ⟨some 95, .mov (.tmp 94), none⟩,
      ⟨some 96, .faddr (.tmp 1) 6, some (95, true)⟩,
      ⟨some 97, .load (.tmp 96) 1 false .plain, some (95, true)⟩,
      ⟨some 98, .mov (.tmp 4), some (95, true)⟩,
      ⟨some 99, .iaddr 11 (.tmp 97) (.tmp 98), some (95, true)⟩,
      ⟨some 100, .faddr (.tmp 99) 0, some (95, true)⟩,
      ⟨some 101, .faddr (.tmp 100) 2, some (95, true)⟩,
      ⟨some 102, .load (.tmp 101) 1 false .plain, some (95, true)⟩,
      ⟨some 103, .bin .eql (.tmp 102) (.const (.str ⟨#[]⟩)), some (95, true)⟩,
      ⟨some 104, .pick (.tmp 95) (.tmp 103) (.const (.bool false)), none⟩] [1, 4, 104])
    (.cond (.tmp 104)
      (.seq (.region [
        ⟨some 2, .mov (.const (.bool false)), none⟩] [2])
      .ret)
      .skip)))
  (.region [
    ⟨some 86, .mov (.tmp 4), none⟩,
    ⟨some 87, .bin .add (.tmp 86) (.const (.int .i64 1)), none⟩,
    ⟨some 4, .mov (.tmp 87), none⟩] [1, 4])))
def c29 : CFn := ⟨123, [.tmp 2],
  (.seq (.region [
    ⟨some 1, .box (.tmp 0), none⟩,
    ⟨some 2, .mov (.const (.bool false)), none⟩] [1])
  (.seq (.seq (.region [
    ⟨some 5, .faddr (.tmp 1) 0, none⟩,
    ⟨some 6, .load (.tmp 5) 1 false .plain, none⟩,
    ⟨some 7, .call 101 [false] [.tmp 6], none⟩,
    ⟨some 8, .un .not (.tmp 7), none⟩,
    ⟨some 9, .mov (.tmp 8), none⟩,
    ⟨some 10, .faddr (.tmp 1) 2, some (9, false)⟩,
    ⟨some 11, .load (.tmp 10) 1 false .plain, some (9, false)⟩,
    ⟨some 12, .call 102 [false, false, false] [.tmp 11, .const (.int .i64 0), .const (.int .i64 1000000)], some (9, false)⟩,
    ⟨some 13, .un .not (.tmp 12), some (9, false)⟩,
    ⟨some 14, .pick (.tmp 9) (.const (.bool true)) (.tmp 13), none⟩,
    ⟨some 15, .mov (.tmp 14), none⟩,
    ⟨some 16, .faddr (.tmp 1) 4, some (15, false)⟩,
    ⟨some 17, .load (.tmp 16) 1 false .plain, some (15, false)⟩,
    ⟨some 18, .call 102 [false, false, false] [.tmp 17, .const (.int .i64 0), .const (.int .i64 1000000)], some (15, false)⟩,
    ⟨some 19, .un .not (.tmp 18), some (15, false)⟩,
    ⟨some 20, .pick (.tmp 15) (.const (.bool true)) (.tmp 19), none⟩,
    ⟨some 21, .mov (.tmp 20), none⟩,
    ⟨some 22, .faddr (.tmp 1) 5, some (21, false)⟩,
    ⟨some 23, .load (.tmp 22) 1 false .plain, some (21, false)⟩,
    ⟨some 24, .call 7 [false] [.tmp 23], some (21, false)⟩,
    ⟨some 25, .un .not (.tmp 24), some (21, false)⟩,
    ⟨some 26, .pick (.tmp 21) (.const (.bool true)) (.tmp 25), none⟩,
    ⟨some 27, .mov (.tmp 26), none⟩,
    ⟨some 28, .faddr (.tmp 1) 5, some (27, false)⟩,
    ⟨some 29, .load (.tmp 28) 1 false .plain, some (27, false)⟩,
    ⟨some 30, .len false (.tmp 29), some (27, false)⟩,
    ⟨some 31, .bin .gtr (.tmp 30) (.const (.int .i64 0)), some (27, false)⟩,
    ⟨some 32, .mov (.tmp 31), some (27, false)⟩,
    ⟨some 33, .faddr (.tmp 1) 3, some (32, true)⟩,
    ⟨some 34, .load (.tmp 33) 1 false .plain, some (32, true)⟩,
    ⟨some 35, .un .not (.tmp 34), some (32, true)⟩,
    ⟨some 36, .pick (.tmp 32) (.tmp 35) (.const (.bool false)), some (27, false)⟩,
    ⟨some 37, .pick (.tmp 27) (.const (.bool true)) (.tmp 36), none⟩,
    ⟨some 38, .mov (.tmp 37), none⟩,
    ⟨some 39, .faddr (.tmp 1) 6, some (38, false)⟩,
    ⟨some 40, .load (.tmp 39) 1 false .plain, some (38, false)⟩,
    ⟨some 41, .faddr (.tmp 1) 2, some (38, false)⟩,
    ⟨some 42, .load (.tmp 41) 1 false .plain, some (38, false)⟩,
    ⟨some 43, .call 12 [false, false] [.tmp 40, .tmp 42], some (38, false)⟩,
    ⟨some 44, .un .not (.tmp 43), some (38, false)⟩,
    ⟨some 45, .pick (.tmp 38) (.const (.bool true)) (.tmp 44), none⟩,
    ⟨some 46, .mov (.tmp 45), none⟩,
    ⟨some 47, .faddr (.tmp 1) 7, some (46, false)⟩,
    ⟨some 48, .load (.tmp 47) 1 false .plain, some (46, false)⟩,
    ⟨some 49, .faddr (.tmp 1) 2, some (46, false)⟩,
    ⟨some 50, .load (.tmp 49) 1 false .plain, some (46, false)⟩,
    ⟨some 51, .call 111 [false, false] [.tmp 48, .tmp 50], some (46, false)⟩,
    ⟨some 52, .un .not (.tmp 51), some (46, false)⟩,
    ⟨some 53, .pick (.tmp 46) (.const (.bool true)) (.tmp 52), none⟩,
    ⟨some 54, .mov (.tmp 53), none⟩,
    ⟨some 55, .faddr (.tmp 1) 8, some (54, false)⟩,
    ⟨some 56, .load (.tmp 55) 1 false .plain, some (54, false)⟩,
    ⟨some 57, .faddr (.tmp 1) 2, some (54, false)⟩,
    ⟨some 58, .load (.tmp 57) 1 false .plain, some (54, false)⟩,
    ⟨some 59, .call 111 [false, false] [.tmp 56, .tmp 58], some (54, false)⟩,
    ⟨some 60, .un .not (.tmp 59), some (54, false)⟩,
    ⟨some 61, .pick (.tmp 54) (.const (.bool true)) (.tmp 60), none⟩] [1, 61])
  (.cond (.tmp 61)
    (.seq (.region [
      ⟨some 2, .mov (.const (.bool false)), none⟩] [2])
    .ret)
    .skip))
  (.seq (.seq (.region [
    ⟨some 3, .mov (.const (.int .i64 0)), none⟩] [1, 3])
  (.block 0
    (.loop [1, 3] c29b0)))
  (.seq (.seq (.region [
    ⟨some 79, .faddr (.tmp 1) 1, none⟩,
    ⟨some 80, .load (.tmp 79) 1 false .plain, none⟩] [1, 80])
  (.cond (.tmp 80)
    (.seq (.region [
      ⟨some 2, .mov (.const (.bool true)), none⟩] [2])
    .ret)
    .skip))
  (.seq (.seq (.region [
    ⟨some 4, .mov (.const (.int .i64 0)), none⟩] [1, 4])
  (.block 2
    (.loop [1, 4] c29b1)))
  (.seq (.region [
    ⟨some 105, .faddr (.tmp 1) 3, none⟩,
    ⟨some 106, .load (.tmp 105) 1 false .plain, none⟩,
    ⟨some 107, .un .not (.tmp 106), none⟩,
    ⟨some 108, .mov (.tmp 107), none⟩,
    ⟨some 109, .faddr (.tmp 1) 4, some (108, true)⟩,
    ⟨some 110, .load (.tmp 109) 1 false .plain, some (108, true)⟩,
    ⟨some 111, .bin .eql (.tmp 110) (.const (.int .i64 0)), some (108, true)⟩,
    ⟨some 112, .pick (.tmp 108) (.tmp 111) (.const (.bool false)), none⟩,
    ⟨some 113, .mov (.tmp 112), none⟩,
    ⟨some 114, .faddr (.tmp 1) 7, some (113, true)⟩,
    ⟨some 115, .load (.tmp 114) 1 false .plain, some (113, true)⟩,
    ⟨some 116, .len false (.tmp 115), some (113, true)⟩,
    ⟨some 117, .faddr (.tmp 1) 8, some (113, true)⟩,
    ⟨some 118, .load (.tmp 117) 1 false .plain, some (113, true)⟩,
    ⟨some 119, .len false (.tmp 118), some (113, true)⟩,
    ⟨some 120, .bin .add (.tmp 116) (.tmp 119), some (113, true)⟩,
    ⟨some 121, .bin .eql (.tmp 120) (.const (.int .i64 0)), some (113, true)⟩,
    ⟨some 122, .pick (.tmp 113) (.tmp 121) (.const (.bool false)), none⟩,
    ⟨some 2, .mov (.tmp 122), none⟩] [2])
  .ret))))))⟩
-- laws.wRuns
def c31b0 : CCode := (.seq (.seq (.region [
    ⟨some 11, .mov (.tmp 5), none⟩,
    ⟨some 12, .mov (.tmp 0), none⟩,
    ⟨some 13, .len false (.tmp 12), none⟩,
    ⟨some 14, .bin .lss (.tmp 11) (.tmp 13), none⟩] [0, 1, 5, 14])
  (.cond (.tmp 14)
    .skip
    (.exit 0)))
  (.seq (.block 1
    (.seq (.quiet [
      ⟨some 17, .mov (.tmp 0), none⟩,
      ⟨some 18, .mov (.tmp 5), none⟩,
      ⟨some 19, .iaddr 11 (.tmp 17) (.tmp 18), none⟩,
      ⟨some 20, .load (.tmp 19) 11 true .plain, none⟩,
      ⟨some 21, .mov (.tmp 1), none⟩,
      ⟨some 22, .mov (.tmp 5), none⟩,
      ⟨some 23, .iaddr 11 (.tmp 21) (.tmp 22), none⟩,
      ⟨some 24, .load (.tmp 23) 11 true .plain, none⟩,
      ⟨some 25, .eqs true [.s, .i, .s, .i, .i, .i, .i, .i, .i, .i, .i] (.tmp 20) (.tmp 24), none⟩] [0, 1, 5, 25])
    (.cond (.tmp 25)
      (.seq (.region [
        ⟨some 4, .mov (.const (.bool false)), none⟩] [4])
      .ret)
      .skip)))
  (.region [
    ⟨some 15, .mov (.tmp 5), none⟩,
    ⟨some 16, .bin .add (.tmp 15) (.const (.int .i64 1)), none⟩,
    ⟨some 5, .mov (.tmp 16), none⟩] [0, 1, 5])))
def c31 : CFn := ⟨26, [.tmp 4],
  (.seq (.region [
    ⟨some 4, .mov (.const (.bool false)), none⟩] [0, 1])
  (.seq (.seq (.region [
    ⟨some 6, .mov (.tmp 0), none⟩,
    ⟨some 7, .len false (.tmp 6), none⟩,
    ⟨some 8, .mov (.tmp 1), none⟩,
    ⟨some 9, .len false (.tmp 8), none⟩,
    ⟨some 10, .bin .neq (.tmp 7) (.tmp 9), none⟩] [0, 1, 10])
  (.cond (.tmp 10)
    (.seq (.region [
      ⟨some 4, .mov (.const (.bool false)), none⟩] [4])
    .ret)
    .skip))
  (.seq (.seq (.region [
    ⟨some 5, .mov (.const (.int .i64 0)), none⟩] [0, 1, 5])
  (.block 0
    (.loop [0, 1, 5] c31b0)))
  (.seq (.region [
    ⟨some 4, .mov (.const (.bool true)), none⟩] [4])
  .ret))))⟩
-- spec.MateFall
def c32b0 : CCode := (.seq (.seq (.region [
    ⟨some 18, .mov (.tmp 6), none⟩,
    ⟨some 19, .faddr (.tmp 2) 6, none⟩,
    ⟨some 20, .load (.tmp 19) 1 false .plain, none⟩,
    ⟨some 21, .len false (.tmp 20), none⟩,
    ⟨some 22, .bin .lss (.tmp 18) (.tmp 21), none⟩] [1, 2, 4, 5, 6, 22])
  (.cond (.tmp 22)
    .skip
    (.exit 0)))
  (.seq (.block 1
    (.seq (.region [
      ⟨some 25, .faddr (.tmp 2) 6, none⟩,
      ⟨some 26, .load (.tmp 25) 1 false .plain, none⟩,
      ⟨some 27, .mov (.tmp 6), none⟩,
      ⟨some 28, .iaddr 11 (.tmp 26) (.tmp 27), none⟩,
      ⟨some 29, .load (.tmp 28) 11 true .plain, none⟩,
      ⟨some 7, .alloc [.str ⟨#[]⟩, .int .i64 0, .str ⟨#[]⟩, .int .i64 0, .int .i64 0, .int .i64 0, .int .i64 0, .int .i64 0, .int .i64 0, .int .i64 0, .int .i64 0], none⟩,
      ⟨none, .store (.tmp 7) (.tmp 29) 11, none⟩] [1, 2, 4, 5, 6, 7])
    (.seq (.region [
      ⟨some 30, .load (.tmp 7) 11 true .plain, none⟩,
      ⟨some 31, .call 2 [false] [.tmp 30], none⟩,
      ⟨some 8, .mov (.tmp 31), none⟩] [1, 2, 4, 5, 6, 7, 8])
    (.seq (.seq (.region [
      ⟨some 32, .mov (.tmp 1), none⟩] [1, 2, 4, 5, 6, 7, 8, 32])
    (.cond (.tmp 32)
      (.seq (.region [
        ⟨some 33, .faddr (.tmp 7) 7, none⟩,
        ⟨none, .store (.tmp 33) (.const (.int .i64 2)) 1, none⟩] [1, 2, 4, 5, 6, 7, 8])
      (.region [
        ⟨some 34, .faddr (.tmp 7) 8, none⟩,
        ⟨none, .store (.tmp 34) (.const (.int .i64 0)) 1, none⟩] [1, 2, 4, 5, 6, 7, 8]))
      .skip))
    (.seq (.region [
      ⟨some 35, .mov (.tmp 8), none⟩,
      ⟨some 36, .mov (.tmp 35), none⟩,
      ⟨some 37, .mov (.tmp 1), some (36, true)⟩,
      ⟨some 38, .un .not (.tmp 37), some (36, true)⟩,
      ⟨some 39, .mov (.tmp 38), some (36, true)⟩,
      ⟨some 40, .faddr (.tmp 7) 0, some (39, false)⟩,
      ⟨some 41, .faddr (.tmp 40) 2, some (39, false)⟩,
      ⟨some 42, .load (.tmp 41) 1 false .plain, some (39, false)⟩,
      ⟨some 43, .bin .neq (.tmp 42) (.const (.str ⟨#[]⟩)), some (39, false)⟩,
      ⟨some 44, .pick (.tmp 39) (.const (.bool true)) (.tmp 43), some (36, true)⟩,
      ⟨some 45, .pick (.tmp 36) (.tmp 44) (.const (.bool false)), none⟩] [1, 2, 4, 5, 6, 7, 45])
    (.cond (.tmp 45)
      (.region [
        ⟨some 46, .faddr (.tmp 5) 6, none⟩,
        ⟨some 47, .load (.tmp 46) 1 false .plain, none⟩,
        ⟨some 48, .load (.tmp 7) 11 true .plain, none⟩,
        ⟨some 49, .bslice 11 [.str ⟨#[]⟩, .int .i64 0, .str ⟨#[]⟩, .int .i64 0, .int .i64 0, .int .i64 0, .int .i64 0, .int .i64 0, .int .i64 0, .int .i64 0, .int .i64 0] 1 [(0, .tmp 48)], none⟩,
        ⟨some 50, .append 11 104 true (.tmp 47) (.tmp 49), none⟩,
        ⟨some 51, .faddr (.tmp 5) 6, none⟩,
        ⟨none, .store (.tmp 51) (.tmp 50) 1, none⟩] [1, 2, 4, 5, 6])
      .skip))))))
  (.region [
    ⟨some 23, .mov (.tmp 6), none⟩,
    ⟨some 24, .bin .add (.tmp 23) (.const (.int .i64 1)), none⟩,
    ⟨some 6, .mov (.tmp 24), none⟩] [1, 2, 4, 5, 6])))
def c32 : CFn := ⟨54, [.cell 4 9 true],
  (.seq (.region [
    ⟨some 2, .box (.tmp 0), none⟩,
    ⟨some 4, .alloc [.str ⟨#[]⟩, .bool false, .int .i64 0, .bool false, .int .i64 0, .sl .own 7 [], .sl .own 11 [], .sl .own 4 [], .sl .own 4 []], none⟩] [1, 2, 4])
  (.seq (.seq (.region [
    ⟨some 9, .load (.tmp 2) 9 true .plain, none⟩,
    ⟨some 10, .call 29 [false] [.tmp 9], none⟩,
    ⟨some 11, .un .not (.tmp 10), none⟩] [1, 2, 4, 11])
  (.cond (.tmp 11)
    (.seq (.region [
      ⟨some 12, .build [.str ⟨#[]⟩, .bool false, .int .i64 0, .bool false, .int .i64 0, .sl .own 7 [], .sl .own 11 [], .sl .own 4 [], .sl .own 4 []] [], none⟩,
      ⟨none, .store (.tmp 4) (.tmp 12) 9, none⟩] [4])
    .ret)
    .skip))
  (.seq (.region [
    ⟨some 13, .faddr (.tmp 2) 0, none⟩,
    ⟨some 14, .load (.tmp 13) 1 false .plain, none⟩,
    ⟨some 15, .faddr (.tmp 2) 2, none⟩,
    ⟨some 16, .load (.tmp 15) 1 false .plain, none⟩,
    ⟨some 17, .build [.str ⟨#[]⟩, .bool false, .int .i64 0, .bool false, .int .i64 0, .sl .own 7 [], .sl .own 11 [], .sl .own 4 [], .sl .own 4 []] [(0, 1, .tmp 14), (2, 1, .tmp 16)], none⟩,
    ⟨some 5, .alloc [.str ⟨#[]⟩, .bool false, .int .i64 0, .bool false, .int .i64 0, .sl .own 7 [], .sl .own 11 [], .sl .own 4 [], .sl .own 4 []], none⟩,
    ⟨none, .store (.tmp 5) (.tmp 17) 9, none⟩] [1, 2, 4, 5])
  (.seq (.seq (.region [
    ⟨some 6, .mov (.const (.int .i64 0)), none⟩] [1, 2, 4, 5, 6])
  (.block 0
    (.loop [1, 2, 4, 5, 6] c32b0)))
  (.seq (.region [
    ⟨some 52, .load (.tmp 5) 9 true .plain, none⟩,
    ⟨some 53, .call 120 [false] [.tmp 52], none⟩,
    ⟨none, .store (.tmp 4) (.tmp 53) 9, none⟩] [4])
  .ret)))))⟩
-- laws.wMate
def c33 : CFn := ⟨66, [.tmp 4],
  (.seq (.region [
    ⟨some 2, .box (.tmp 0), none⟩,
    ⟨some 3, .box (.tmp 1), none⟩,
    ⟨some 4, .mov (.const (.bool false)), none⟩] [2, 3])
  (.seq (.region [
    ⟨some 5, .faddr (.tmp 2) 0, none⟩,
    ⟨some 6, .load (.tmp 5) 1 false .plain, none⟩,
    ⟨some 7, .faddr (.tmp 3) 0, none⟩,
    ⟨some 8, .load (.tmp 7) 1 false .plain, none⟩,
    ⟨some 9, .bin .eql (.tmp 6) (.tmp 8), none⟩,
    ⟨some 10, .mov (.tmp 9), none⟩,
    ⟨some 11, .faddr (.tmp 2) 1, some (10, true)⟩,
    ⟨some 12, .load (.tmp 11) 1 false .plain, some (10, true)⟩,
    ⟨some 13, .faddr (.tmp 3) 1, some (10, true)⟩,
    ⟨some 14, .load (.tmp 13) 1 false .plain, some (10, true)⟩,
    ⟨some 15, .beq false (.tmp 12) (.tmp 14), some (10, true)⟩,
    ⟨some 16, .pick (.tmp 10) (.tmp 15) (.const (.bool false)), none⟩,
    ⟨some 17, .mov (.tmp 16), none⟩,
    ⟨some 18, .faddr (.tmp 2) 2, some (17, true)⟩,
    ⟨some 19, .load (.tmp 18) 1 false .plain, some (17, true)⟩,
    ⟨some 20, .faddr (.tmp 3) 2, some (17, true)⟩,
    ⟨some 21, .load (.tmp 20) 1 false .plain, some (17, true)⟩,
    ⟨some 22, .bin .eql (.tmp 19) (.tmp 21), some (17, true)⟩,
    ⟨some 23, .pick (.tmp 17) (.tmp 22) (.const (.bool false)), none⟩,
    ⟨some 24, .mov (.tmp 23), none⟩,
    ⟨some 25, .faddr (.tmp 2) 3, some (24, true)⟩,
    ⟨some 26, .load (.tmp 25) 1 false .plain, some (24, true)⟩,
    ⟨some 27, .faddr (.tmp 3) 3, some (24, true)⟩,
    ⟨some 28, .load (.tmp 27) 1 false .plain, some (24, true)⟩,
    ⟨some 29, .beq false (.tmp 26) (.tmp 28), some (24, true)⟩,
    ⟨some 30, .pick (.tmp 24) (.tmp 29) (.const (.bool false)), none⟩,
    ⟨some 31, .mov (.tmp 30), none⟩,
    ⟨some 32, .faddr (.tmp 2) 4, some (31, true)⟩,
    ⟨some 33, .load (.tmp 32) 1 false .plain, some (31, true)⟩,
    ⟨some 34, .faddr (.tmp 3) 4, some (31, true)⟩,
    ⟨some 35, .load (.tmp 34) 1 false .plain, some (31, true)⟩,
    ⟨some 36, .bin .eql (.tmp 33) (.tmp 35), some (31, true)⟩,
    ⟨some 37, .pick (.tmp 31) (.tmp 36) (.const (.bool false)), none⟩,
    ⟨some 38, .mov (.tmp 37), none⟩,
    ⟨some 39, .faddr (.tmp 2) 5, some (38, true)⟩,
    ⟨some 40, .load (.tmp 39) 1 false .plain, some (38, true)⟩,
    ⟨some 41, .faddr (.tmp 3) 5, some (38, true)⟩,
    ⟨some 42, .load (.tmp 41) 1 false .plain, some (38, true)⟩,
    ⟨some 43, .call 118 [false, false] [.tmp 40, .tmp 42], some (38, true)⟩,
    ⟨some 44, .pick (.tmp 38) (.tmp 43) (.const (.bool false)), none⟩,
    ⟨some 45, .mov (.tmp 44), none⟩,
    ⟨some 46, .faddr (.tmp 2) 6, some (45, true)⟩,
    ⟨some 47, .load (.tmp 46) 1 false .plain, some (45, true)⟩,
    ⟨some 48, .faddr (.tmp 3) 6, some (45, true)⟩,
    ⟨some 49, .load (.tmp 48) 1 false .plain, some (45, true)⟩,
    ⟨some 50, .call 31 [false, false] [.tmp 47, .tmp 49], some (45, true)⟩,
    ⟨some 51, .pick (.tmp 45) (.tmp 50) (.const (.bool false)), none⟩,
    ⟨some 52, .mov (.tmp 51), none⟩,
    ⟨some 53, .faddr (.tmp 2) 7, some (52, true)⟩,
    ⟨some 54, .load (.tmp 53) 1 false .plain, some (52, true)⟩,
    ⟨some 55, .faddr (.tmp 3) 7, some (52, true)⟩,
    ⟨some 56, .load (.tmp 55) 1 false .plain, some (52, true)⟩,
    ⟨some 57, .call 119 [false, false] [.tmp 54, .tmp 56], some (52, true)⟩,
    ⟨some 58, .pick (.tmp 52) (.tmp 57) (.const (.bool false)), none⟩,
    ⟨some 59, .mov (.tmp 58), none⟩,
    ⟨some 60, .faddr (.tmp 2) 8, some (59, true)⟩,
    ⟨some 61, .load (.tmp 60) 1 false .plain, some (59, true)⟩,
    ⟨some 62, .faddr (.tmp 3) 8, some (59, true)⟩,
    ⟨some 63, .load (.tmp 62) 1 false .plain, some (59, true)⟩,
    ⟨some 64, .call 119 [false, false] [.tmp 61, .tmp 63], some (59, true)⟩,
    ⟨some 65, .pick (.tmp 59) (.tmp 64) (.const (.bool false)), none⟩,
    ⟨some 4, .mov (.tmp 65), none⟩] [4])
  .ret))⟩
-- spec.MateRise
def c34 : CFn := ⟨15, [.cell 2 9 true],
  (.seq (.region [
    ⟨some 1, .box (.tmp 0), none⟩,
    ⟨some 2, .alloc [.str ⟨#[]⟩, .bool false, .int .i64 0, .bool false, .int .i64 0, .sl .own 7 [], .sl .own 11 [], .sl .own 4 [], .sl .own 4 []], none⟩] [1, 2])
  (.seq (.seq (.region [
    ⟨some 4, .load (.tmp 1) 9 true .plain, none⟩,
    ⟨some 5, .call 29 [false] [.tmp 4], none⟩,
    ⟨some 6, .un .not (.tmp 5), none⟩] [1, 2, 6])
  (.cond (.tmp 6)
    (.seq (.region [
      ⟨some 7, .build [.str ⟨#[]⟩, .bool false, .int .i64 0, .bool false, .int .i64 0, .sl .own 7 [], .sl .own 11 [], .sl .own 4 [], .sl .own 4 []] [], none⟩,
      ⟨none, .store (.tmp 2) (.tmp 7) 9, none⟩] [2])
    .ret)
    .skip))
  (.seq (.region [
    ⟨some 8, .load (.tmp 1) 9 true .plain, none⟩,
    ⟨some 9, .call 120 [false] [.tmp 8], none⟩,
    ⟨some 3, .alloc [.str ⟨#[]⟩, .bool false, .int .i64 0, .bool false, .int .i64 0, .sl .own 7 [], .sl .own 11 [], .sl .own 4 [], .sl .own 4 []], none⟩,
    ⟨none, .store (.tmp 3) (.tmp 9) 9, none⟩] [1, 2, 3])
  (.seq (.seq (.region [
    ⟨some 10, .faddr (.tmp 1) 2, none⟩,
    ⟨some 11, .load (.tmp 10) 1 false .plain, none⟩,
    ⟨some 12, .bin .lss (.tmp 11) (.const (.int .i64 1000000)), none⟩] [2, 3, 12])
  (.cond (.tmp 12)
    (.region [
      ⟨some 13, .faddr (.tmp 3) 1, none⟩,
      ⟨none, .store (.tmp 13) (.const (.bool true)) 1, none⟩] [2, 3])
    .skip))
  (.seq (.region [
    ⟨some 14, .load (.tmp 3) 9 true .plain, none⟩,
    ⟨none, .store (.tmp 2) (.tmp 14) 9, none⟩] [2])
  .ret)))))⟩
-- impl.MateRise
def c35 : CFn := ⟨14, [.cell 2 9 true],
  (.seq (.region [
    ⟨some 1, .box (.tmp 0), none⟩,
    ⟨some 2, .alloc [.str ⟨#[]⟩, .bool false, .int .i64 0, .bool false, .int .i64 0, .sl .own 7 [], .sl .own 11 [], .sl .own 4 [], .sl .own 4 []], none⟩] [1, 2])
  (.seq (.seq (.region [
    ⟨some 3, .load (.tmp 1) 9 true .plain, none⟩,
    ⟨some 4, .call 28 [false] [.tmp 3], none⟩,
    ⟨some 5, .un .not (.tmp 4), none⟩] [1, 2, 5])
  (.cond (.tmp 5)
    (.seq (.region [
      ⟨some 6, .build [.str ⟨#[]⟩, .bool false, .int .i64 0, .bool false, .int .i64 0, .sl .own 7 [], .sl .own 11 [], .sl .own 4 [], .sl .own 4 []] [], none⟩,
      ⟨none, .store (.tmp 2) (.tmp 6) 9, none⟩] [2])
    .ret)
    .skip))
  (.seq (.region [
    ⟨some 7, .load (.tmp 1) 9 true .plain, none⟩,
    ⟨some 8, .call 117 [false] [.tmp 7], none⟩,
    ⟨none, .store (.tmp 1) (.tmp 8) 9, none⟩] [1, 2])
  (.seq (.seq (.region [
    ⟨some 9, .faddr (.tmp 1) 2, none⟩,
    ⟨some 10, .load (.tmp 9) 1 false .plain, none⟩,
    ⟨some 11, .bin .neq (.tmp 10) (.const (.int .i64 1000000)), none⟩] [1, 2, 11])
  (.cond (.tmp 11)
    (.region [
      ⟨some 12, .faddr (.tmp 1) 1, none⟩,
      ⟨none, .store (.tmp 12) (.const (.bool true)) 1, none⟩] [1, 2])
    .skip))
  (.seq (.region [
    ⟨some 13, .load (.tmp 1) 9 true .plain, none⟩,
    ⟨none, .store (.tmp 2) (.tmp 13) 9, none⟩] [2])
  .ret)))))⟩
-- impl.MateFall
def c36b0 : CCode := (.seq (.region [
    ⟨some 21, .bin .lss (.tmp 20) (.tmp 19), none⟩] [1, 4, 5, 18, 19, 20, 21])
  (.seq (.cond (.tmp 21)
    .skip
    (.exit 0))
  (.seq (.block 1
    (.seq (.region [
      ⟨some 22, .iaddr 11 (.tmp 18) (.tmp 20), none⟩,
      ⟨some 23, .load (.tmp 22) 11 true .plain, none⟩,
      ⟨some 7, .alloc [.str ⟨#[]⟩, .int .i64 0, .str ⟨#[]⟩, .int .i64 0, .int .i64 0, .int .i64 0, .int .i64 0, .int .i64 0, .int .i64 0, .int .i64 0, .int .i64 0], none⟩,
      ⟨none, .store (.tmp 7) (.tmp 23) 11, none⟩] [1, 4, 5, 7, 18, 19, 20])
    (.seq (.block 2
      (.seq (.region [
        ⟨some 25, .load (.tmp 7) 11 true .plain, none⟩,
        ⟨some 26, .call 1 [false] [.tmp 25], none⟩,
        ⟨some 27, .un .not (.tmp 26), none⟩,
        ⟨some 24, .mov (.tmp 27), none⟩] [1, 4, 5, 7, 18, 19, 20, 24])
      (.cond (.tmp 24)
        (.exit 1)
        (.seq (.region [
          ⟨some 29, .mov (.tmp 1), none⟩,
          ⟨some 30, .mov (.tmp 29), none⟩,
          ⟨some 31, .faddr (.tmp 7) 0, some (30, true)⟩,
          ⟨some 32, .faddr (.tmp 31) 2, some (30, true)⟩,
          ⟨some 33, .load (.tmp 32) 1 false .plain, some (30, true)⟩,
          ⟨some 34, .bin .eql (.tmp 33) (.const (.str ⟨#[]⟩)), some (30, true)⟩,
          ⟨some 35, .pick (.tmp 30) (.tmp 34) (.const (.bool false)), none⟩,
          ⟨some 28, .mov (.tmp 35), none⟩] [1, 4, 5, 7, 18, 19, 20, 28])
        (.cond (.tmp 28)
          (.exit 1)
          (.seq (.region [
            ⟨some 37, .mov (.tmp 1), none⟩,
            ⟨some 36, .mov (.tmp 37), none⟩] [1, 4, 5, 7, 18, 19, 20, 36])
          (.cond (.tmp 36)
            (.region [
              ⟨some 38, .faddr (.tmp 7) 7, none⟩,
              ⟨none, .store (.tmp 38) (.const (.int .i64 2)) 1, none⟩,
              ⟨some 39, .faddr (.tmp 7) 8, none⟩,
              ⟨none, .store (.tmp 39) (.const (.int .i64 0)) 1, none⟩] [1, 4, 5, 7, 18, 19, 20])
            .skip)))))))
    (.region [
      ⟨some 40, .faddr (.tmp 5) 6, none⟩,
      ⟨some 41, .load (.tmp 40) 1 false .plain, none⟩,
      ⟨some 42, .load (.tmp 7) 11 true .plain, none⟩,
      ⟨some 43, .bslice 11 [.str ⟨#[]⟩, .int .i64 0, .str ⟨#[]⟩, .int .i64 0, .int .i64 0, .int .i64 0, .int .i64 0, .int .i64 0, .int .i64 0, .int .i64 0, .int .i64 0] 1 [(0, .tmp 42)], none⟩,
      ⟨some 44, .append 11 104 true (.tmp 41) (.tmp 43), none⟩,
      ⟨some 45, .faddr (.tmp 5) 6, none⟩,
      ⟨none, .store (.tmp 45) (.tmp 44) 1, none⟩] [1, 4, 5, 18, 19, 20]))))
  (.region [
    ⟨some 46, .bin .add (.tmp 20) (.const (.int .i64 1)), none⟩,
    ⟨some 20, .mov (.tmp 46), none⟩] [1, 4, 5, 18, 19, 20]))))
def c36 : CFn := ⟨48, [.cell 4 9 true],
  (.seq (.region [
    ⟨some 2, .box (.tmp 0), none⟩,
    ⟨some 4, .alloc [.str ⟨#[]⟩, .bool false, .int .i64 0, .bool false, .int .i64 0, .sl .own 7 [], .sl .own 11 [], .sl .own 4 [], .sl .own 4 []], none⟩] [1, 2, 4])
  (.seq (.seq (.region [
    ⟨some 8, .load (.tmp 2) 9 true .plain, none⟩,
    ⟨some 9, .call 28 [false] [.tmp 8], none⟩,
    ⟨some 10, .un .not (.tmp 9), none⟩] [1, 2, 4, 10])
  (.cond (.tmp 10)
    (.seq (.region [
      ⟨some 11, .build [.str ⟨#[]⟩, .bool false, .int .i64 0, .bool false, .int .i64 0, .sl .own 7 [], .sl .own 11 [], .sl .own 4 [], .sl .own 4 []] [], none⟩,
      ⟨none, .store (.tmp 4) (.tmp 11) 9, none⟩] [4])
    .ret)
    .skip))
  (.seq (.region [
    ⟨some 12, .faddr (.tmp 2) 0, none⟩,
    ⟨some 13, .load (.tmp 12) 1 false .plain, none⟩,
    ⟨some 14, .faddr (.tmp 2) 2, none⟩,
    ⟨some 15, .load (.tmp 14) 1 false .plain, none⟩,
    ⟨some 16, .build [.str ⟨#[]⟩, .bool false, .int .i64 0, .bool false, .int .i64 0, .sl .own 7 [], .sl .own 11 [], .sl .own 4 [], .sl .own 4 []] [(0, 1, .tmp 13), (2, 1, .tmp 15)], none⟩,
    ⟨some 5, .alloc [.str ⟨#[]⟩, .bool false, .int .i64 0, .bool false, .int .i64 0, .sl .own 7 [], .sl .own 11 [], .sl .own 4 [], .sl .own 4 []], none⟩,
    ⟨none, .store (.tmp 5) (.tmp 16) 9, none⟩] [1, 2, 4, 5])
  (.seq (.seq (.region [
    ⟨some 17, .faddr (.tmp 2) 6, none⟩,
    ⟨some 18, .load (.tmp 17) 1 false .plain, none⟩,
    ⟨some 19, .len false (.tmp 18), none⟩,
    ⟨some 20, .mov (.const (.int .i64 0)), none⟩] [1, 4, 5, 18, 19, 20])
  (.block 0
    (.loop [1, 4, 5, 18, 19, 20] c36b0)))
  (.seq (.region [
    ⟨some 47, .load (.tmp 5) 9 true .plain, none⟩,
    ⟨none, .store (.tmp 4) (.tmp 47) 9, none⟩] [4])
  .ret)))))⟩
-- spec.DrawMateFall
def c37 : CFn := ⟨14, [.cell 2 9 true, .tmp 3],
  (.seq (.region [
    ⟨some 2, .alloc [.str ⟨#[]⟩, .bool false, .int .i64 0, .bool false, .int .i64 0, .sl .own 7 [], .sl .own 11 [], .sl .own 4 [], .sl .own 4 []], none⟩,
    ⟨some 3, .mov (.const (.bool false)), none⟩] [0, 2])
  (.seq (.region [
    ⟨some 6, .mov (.tmp 0), none⟩,
    ⟨some 7, .call 91 [false] [.tmp 6], none⟩,
    ⟨some 4, .mov (.tmp 7), none⟩] [2, 4])
  (.seq (.region [
    ⟨some 8, .mov (.tmp 4), none⟩,
    ⟨some 9, .call 116 [true] [.tmp 8], none⟩,
    ⟨some 5, .alloc [.str ⟨#[]⟩, .bool false, .int .i64 0, .bool false, .int .i64 0, .sl .own 7 [], .sl .own 11 [], .sl .own 4 [], .sl .own 4 []], none⟩,
    ⟨none, .store (.tmp 5) (.tmp 9) 9, none⟩] [2, 4, 5])
  (.seq (.loud [
    ⟨some 10, .load (.tmp 5) 9 true .plain, none⟩,
    ⟨some 11, .mov (.tmp 4), none⟩,
    ⟨some 12, .call 89 [true, false] [.tmp 11, .const (.int .i64 2)], none⟩,
    ⟨some 13, .bin .eql (.tmp 12) (.const (.int .i64 0)), none⟩,
    ⟨none, .store (.tmp 2) (.tmp 10) 9, none⟩,
    ⟨some 3, .mov (.tmp 13), none⟩] [0, 0, 2, 6, 7, 31] [2, 3])
  .ret))))⟩
-- spec.l1WantOk
def c81 : CFn := ⟨41, [.tmp 2],
  (.seq (.region [
    ⟨some 1, .box (.tmp 0), none⟩,
    ⟨some 2, .mov (.const (.bool false)), none⟩] [1])
  (.seq (.region [
    ⟨some 3, .faddr (.tmp 1) 0, none⟩,
    ⟨some 4, .load (.tmp 3) 1 false .plain, none⟩,
    ⟨some 5, .call 101 [false] [.tmp 4], none⟩,
    ⟨some 6, .mov (.tmp 5), none⟩,
    ⟨some 7, .faddr (.tmp 1) 1, some (6, true)⟩,
    ⟨some 8, .load (.tmp 7) 1 false .plain, some (6, true)⟩,
    ⟨some 9, .call 102 [false, false, false] [.tmp 8, .const (.int .i64 1), .const (.int .i64 1000000)], some (6, true)⟩,
    ⟨some 10, .pick (.tmp 6) (.tmp 9) (.const (.bool false)), none⟩,
    ⟨some 11, .mov (.tmp 10), none⟩,
    ⟨some 12, .faddr (.tmp 1) 2, some (11, true)⟩,
    ⟨some 13, .load (.tmp 12) 1 false .plain, some (11, true)⟩,
    ⟨some 14, .bin .eql (.tmp 13) (.const (.str ⟨#[]⟩)), some (11, true)⟩,
    ⟨some 15, .mov (.tmp 14), some (11, true)⟩,
    ⟨some 16, .faddr (.tmp 1) 2, some (15, false)⟩,
    ⟨some 17, .load (.tmp 16) 1 false .plain, some (15, false)⟩,
    ⟨some 18, .call 100 [false] [.tmp 17], some (15, false)⟩,
    ⟨some 19, .pick (.tmp 15) (.const (.bool true)) (.tmp 18), some (11, true)⟩,
    ⟨some 20, .pick (.tmp 11) (.tmp 19) (.const (.bool false)), none⟩,
    ⟨some 21, .mov (.tmp 20), none⟩,
    ⟨some 22, .faddr (.tmp 1) 3, some (21, true)⟩,
    ⟨some 23, .load (.tmp 22) 1 false .plain, some (21, true)⟩,
    ⟨some 24, .call 102 [false, false, false] [.tmp 23, .const (.int .i64 0), .const (.int .i64 100)], some (21, true)⟩,
    ⟨some 25, .pick (.tmp 21) (.tmp 24) (.const (.bool false)), none⟩,
    ⟨some 26, .mov (.tmp 25), none⟩,
    ⟨some 27, .faddr (.tmp 1) 4, some (26, true)⟩,
    ⟨some 28, .load (.tmp 27) 1 false .plain, some (26, true)⟩,
    ⟨some 29, .call 102 [false, false, false] [.tmp 28, .const (.int .i64 0), .const (.int .i64 100)], some (26, true)⟩,
    ⟨some 30, .pick (.tmp 26) (.tmp 29) (.const (.bool false)), none⟩,
    ⟨some 31, .mov (.tmp 30), none⟩,
    ⟨some 32, .faddr (.tmp 1) 5, some (31, true)⟩,
    ⟨some 33, .load (.tmp 32) 1 false .plain, some (31, true)⟩,
    ⟨some 34, .call 102 [false, false, false] [.tmp 33, .const (.int .i64 0), .const (.int .i64 100)], some (31, true)⟩,
    ⟨some 35, .pick (.tmp 31) (.tmp 34) (.const (.bool false)), none⟩,
    ⟨some 36, .mov (.tmp 35), none⟩,
    ⟨some 37, .faddr (.tmp 1) 6, some (36, true)⟩,
    ⟨some 38, .load (.tmp 37) 1 false .plain, some (36, true)⟩,
    ⟨some 39, .call 102 [false, false, false] [.tmp 38, .const (.int .i64 0), .const (.int .i64 100)], some (36, true)⟩,
    ⟨some 40, .pick (.tmp 36) (.tmp 39) (.const (.bool false)), none⟩,
    ⟨some 2, .mov (.tmp 40), none⟩] [2])
  .ret))⟩
-- impl.wantOk
def c82 : CFn := ⟨41, [.tmp 2],
  (.seq (.region [
    ⟨some 1, .box (.tmp 0), none⟩,
    ⟨some 2, .mov (.const (.bool false)), none⟩] [1])
  (.seq (.region [
    ⟨some 3, .faddr (.tmp 1) 0, none⟩,
    ⟨some 4, .load (.tmp 3) 1 false .plain, none⟩,
    ⟨some 5, .call 105 [false] [.tmp 4], none⟩,
    ⟨some 6, .mov (.tmp 5), none⟩,
    ⟨some 7, .faddr (.tmp 1) 1, some (6, true)⟩,
    ⟨some 8, .load (.tmp 7) 1 false .plain, some (6, true)⟩,
    ⟨some 9, .call 85 [false, false, false] [.tmp 8, .const (.int .i64 1), .const (.int .i64 1000000)], some (6, true)⟩,
    ⟨some 10, .pick (.tmp 6) (.tmp 9) (.const (.bool false)), none⟩,
    ⟨some 11, .mov (.tmp 10), none⟩,
    ⟨some 12, .faddr (.tmp 1) 2, some (11, true)⟩,
    ⟨some 13, .load (.tmp 12) 1 false .plain, some (11, true)⟩,
    ⟨some 14, .bin .eql (.tmp 13) (.const (.str ⟨#[]⟩)), some (11, true)⟩,
    ⟨some 15, .mov (.tmp 14), some (11, true)⟩,
    ⟨some 16, .faddr (.tmp 1) 2, some (15, false)⟩,
    ⟨some 17, .load (.tmp 16) 1 false .plain, some (15, false)⟩,
    ⟨some 18, .call 106 [false] [.tmp 17], some (15, false)⟩,
    ⟨some 19, .pick (.tmp 15) (.const (.bool true)) (.tmp 18), some (11, true)⟩,
    ⟨some 20, .pick (.tmp 11) (.tmp 19) (.const (.bool false)), none⟩,
    ⟨some 21, .mov (.tmp 20), none⟩,
    ⟨some 22, .faddr (.tmp 1) 3, some (21, true)⟩,
    ⟨some 23, .load (.tmp 22) 1 false .plain, some (21, true)⟩,
    ⟨some 24, .call 85 [false, false, false] [.tmp 23, .const (.int .i64 0), .const (.int .i64 100)], some (21, true)⟩,
    ⟨some 25, .pick (.tmp 21) (.tmp 24) (.const (.bool false)), none⟩,
    ⟨some 26, .mov (.tmp 25), none⟩,
    ⟨some 27, .faddr (.tmp 1) 4, some (26, true)⟩,
    ⟨some 28, .load (.tmp 27) 1 false .plain, some (26, true)⟩,
    ⟨some 29, .call 85 [false, false, false] [.tmp 28, .const (.int .i64 0), .const (.int .i64 100)], some (26, true)⟩,
    ⟨some 30, .pick (.tmp 26) (.tmp 29) (.const (.bool false)), none⟩,
    ⟨some 31, .mov (.tmp 30), none⟩,
    ⟨some 32, .faddr (.tmp 1) 5, some (31, true)⟩,
    ⟨some 33, .load (.tmp 32) 1 false .plain, some (31, true)⟩,
    ⟨some 34, .call 85 [false, false, false] [.tmp 33, .const (.int .i64 0), .const (.int .i64 100)], some (31, true)⟩,
    ⟨some 35, .pick (.tmp 31) (.tmp 34) (.const (.bool false)), none⟩,
    ⟨some 36, .mov (.tmp 35), none⟩,
    ⟨some 37, .faddr (.tmp 1) 6, some (36, true)⟩,
    ⟨some 38, .load (.tmp 37) 1 false .plain, some (36, true)⟩,
    ⟨some 39, .call 85 [false, false, false] [.tmp 38, .const (.int .i64 0), .const (.int .i64 100)], some (36, true)⟩,
    ⟨some 40, .pick (.tmp 36) (.tmp 39) (.const (.bool false)), none⟩,
    ⟨some 2, .mov (.tmp 40), none⟩] [2])
  .ret))⟩
-- spec.l2RunOk
def c84 : CFn := ⟨60, [.tmp 4],
  (.seq (.region [
    ⟨some 2, .box (.tmp 0), none⟩,
    ⟨some 4, .mov (.const (.bool false)), none⟩] [1, 2])
  (.seq (.seq (.region [
    ⟨some 5, .faddr (.tmp 2) 0, none⟩,
    ⟨some 6, .load (.tmp 5) 7 true .plain, none⟩,
    ⟨some 7, .call 81 [false] [.tmp 6], none⟩,
    ⟨some 8, .un .not (.tmp 7), none⟩,
    ⟨some 9, .mov (.tmp 8), none⟩,
    ⟨some 10, .faddr (.tmp 2) 7, some (9, false)⟩,
    ⟨some 11, .load (.tmp 10) 1 false .plain, some (9, false)⟩,
    ⟨some 12, .call 102 [false, false, false] [.tmp 11, .const (.int .i64 1), .const (.int .i64 6)], some (9, false)⟩,
    ⟨some 13, .un .not (.tmp 12), some (9, false)⟩,
    ⟨some 14, .pick (.tmp 9) (.const (.bool true)) (.tmp 13), none⟩,
    ⟨some 15, .mov (.tmp 14), none⟩,
    ⟨some 16, .faddr (.tmp 2) 8, some (15, false)⟩,
    ⟨some 17, .load (.tmp 16) 1 false .plain, some (15, false)⟩,
    ⟨some 18, .call 102 [false, false, false] [.tmp 17, .const (.int .i64 0), .const (.int .i64 100)], some (15, false)⟩,
    ⟨some 19, .un .not (.tmp 18), some (15, false)⟩,
    ⟨some 20, .pick (.tmp 15) (.const (.bool true)) (.tmp 19), none⟩,
    ⟨some 21, .mov (.tmp 20), none⟩,
    ⟨some 22, .faddr (.tmp 2) 7, some (21, false)⟩,
    ⟨some 23, .load (.tmp 22) 1 false .plain, some (21, false)⟩,
    ⟨some 24, .bin .eql (.tmp 23) (.const (.int .i64 2)), some (21, false)⟩,
    ⟨some 25, .mov (.tmp 24), some (21, false)⟩,
    ⟨some 26, .faddr (.tmp 2) 8, some (25, true)⟩,
    ⟨some 27, .load (.tmp 26) 1 false .plain, some (25, true)⟩,
    ⟨some 28, .bin .neq (.tmp 27) (.const (.int .i64 0)), some (25, true)⟩,
    ⟨some 29, .pick (.tmp 25) (.tmp 28) (.const (.bool false)), some (21, false)⟩,
    ⟨some 30, .pick (.tmp 21) (.const (.bool true)) (.tmp 29), none⟩,
    ⟨some 31, .mov (.tmp 30), none⟩,
    ⟨some 32, .faddr (.tmp 2) 9, some (31, false)⟩,
    ⟨some 33, .load (.tmp 32) 1 false .plain, some (31, false)⟩,
    ⟨some 34, .call 102 [false, false, false] [.tmp 33, .const (.int .i64 0), .const (.int .i64 1000)], some (31, false)⟩,
    ⟨some 35, .un .not (.tmp 34), some (31, false)⟩,
    ⟨some 36, .pick (.tmp 31) (.const (.bool true)) (.tmp 35), none⟩] [1, 2, 36])
  (.cond (.tmp 36)
    (.seq (.region [
      ⟨some 4, .mov (.const (.bool false)), none⟩] [4])
    .ret)
    .skip))
  (.seq (.seq (.region [
    ⟨some 37, .faddr (.tmp 2) 10, none⟩,
    ⟨some 38, .load (.tmp 37) 1 false .plain, none⟩,
    ⟨some 39, .call 102 [false, false, false] [.tmp 38, .const (.int .i64 0), .const (.int .i64 1000016)], none⟩,
    ⟨some 40, .un .not (.tmp 39), none⟩,
    ⟨some 41, .mov (.tmp 40), none⟩,
    ⟨some 42, .faddr (.tmp 2) 0, some (41, false)⟩,
    ⟨some 43, .faddr (.tmp 42) 2, some (41, false)⟩,
    ⟨some 44, .load (.tmp 43) 1 false .plain, some (41, false)⟩,
    ⟨some 45, .bin .eql (.tmp 44) (.const (.str ⟨#[]⟩)), some (41, false)⟩,
    ⟨some 46, .mov (.tmp 45), some (41, false)⟩,
    ⟨some 47, .faddr (.tmp 2) 10, some (46, true)⟩,
    ⟨some 48, .load (.tmp 47) 1 false .plain, some (46, true)⟩,
    ⟨some 49, .bin .neq (.tmp 48) (.const (.int .i64 0)), some (46, true)⟩,
    ⟨some 50, .pick (.tmp 46) (.tmp 49) (.const (.bool false)), some (41, false)⟩,
    ⟨some 51, .pick (.tmp 41) (.const (.bool true)) (.tmp 50), none⟩] [1, 2, 51])
  (.cond (.tmp 51)
    (.seq (.region [
      ⟨some 4, .mov (.const (.bool false)), none⟩] [4])
    .ret)
    .skip))
  (.seq (.region [
    ⟨some 52, .load (.tmp 2) 11 true .plain, none⟩,
    ⟨some 53, .call 2 [false] [.tmp 52], none⟩,
    ⟨some 54, .un .not (.tmp 53), none⟩,
    ⟨some 55, .mov (.tmp 54), none⟩,
    ⟨some 56, .load (.tmp 2) 11 true .plain, some (55, false)⟩,
    ⟨some 57, .mov (.tmp 1), some (55, false)⟩,
    ⟨some 58, .call 95 [false, false] [.tmp 56, .tmp 57], some (55, false)⟩,
    ⟨some 59, .pick (.tmp 55) (.const (.bool true)) (.tmp 58), none⟩,
    ⟨some 4, .mov (.tmp 59), none⟩] [4])
  .ret))))⟩
-- impl.in
def c85 : CFn := ⟨15, [.tmp 6],
  (.seq (.region [
    ⟨some 6, .mov (.const (.bool false)), none⟩] [0, 1, 2])
  (.seq (.region [
    ⟨some 7, .mov (.tmp 0), none⟩,
    ⟨some 8, .mov (.tmp 1), none⟩,
    ⟨some 9, .bin .geq (.tmp 7) (.tmp 8), none⟩,
    ⟨some 10, .mov (.tmp 9), none⟩,
    ⟨some 11, .mov (.tmp 0), some (10, true)⟩,
    ⟨some 12, .mov (.tmp 2), some (10, true)⟩,
    ⟨some 13, .bin .leq (.tmp 11) (.tmp 12), some (10, true)⟩,
    ⟨some 14, .pick (.tmp 10) (.tmp 13) (.const (.bool false)), none⟩,
    ⟨some 6, .mov (.tmp 14), none⟩] [6])
  .ret))⟩
-- spec.l1DrawWant
def c87 : CFn := ⟨26, [.cell 4 7 true],
  (.seq (.region [
    ⟨some 4, .alloc [.str ⟨#[]⟩, .int .i64 0, .str ⟨#[]⟩, .int .i64 0, .int .i64 0, .int .i64 0, .int .i64 0], none⟩] [0, 1, 4])
  (.seq (.loud [
    ⟨some 5, .mov (.tmp 1), none⟩,
    ⟨some 6, .mov (.tmp 0), none⟩,
    ⟨some 7, .call 89 [true, false] [.tmp 6, .const (.int .i64 3)], none⟩,
    ⟨some 8, .bin .add (.const (.int .i64 1)) (.tmp 7), none⟩,
    ⟨some 9, .bslice 1 [.str ⟨#[]⟩] 4 [(0, .const (.str ⟨#[]⟩)), (1, .const (.str ⟨#[118, 111, 108]⟩)), (2, .const (.str ⟨#[105, 112]⟩)), (3, .const (.str ⟨#[118, 111, 108, 50]⟩))], none⟩,
    ⟨some 10, .mov (.tmp 0), none⟩,
    ⟨some 11, .call 89 [true, false] [.tmp 10, .const (.int .i64 4)], none⟩,
    ⟨some 12, .iaddr 1 (.tmp 9) (.tmp 11), none⟩,
    ⟨some 13, .load (.tmp 12) 1 false .plain, none⟩,
    ⟨some 14, .mov (.tmp 0), none⟩,
    ⟨some 15, .call 89 [true, false] [.tmp 14, .const (.int .i64 4)], none⟩,
    ⟨some 16, .mov (.tmp 0), none⟩,
    ⟨some 17, .call 89 [true, false] [.tmp 16, .const (.int .i64 3)], none⟩,
    ⟨some 18, .bslice 1 [.int .i64 0] 6 [(0, .const (.int .i64 0)), (1, .const (.int .i64 0)), (2, .const (.int .i64 0)), (3, .const (.int .i64 1)), (4, .const (.int .i64 3)), (5, .const (.int .i64 8))], none⟩,
    ⟨some 19, .mov (.tmp 0), none⟩,
    ⟨some 20, .call 89 [true, false] [.tmp 19, .const (.int .i64 6)], none⟩,
    ⟨some 21, .iaddr 1 (.tmp 18) (.tmp 20), none⟩,
    ⟨some 22, .load (.tmp 21) 1 false .plain, none⟩,
    ⟨some 23, .mov (.tmp 0), none⟩,
    ⟨some 24, .call 89 [true, false] [.tmp 23, .const (.int .i64 4)], none⟩,
    ⟨some 25, .build [.str ⟨#[]⟩, .int .i64 0, .str ⟨#[]⟩, .int .i64 0, .int .i64 0, .int .i64 0, .int .i64 0] [(0, 1, .tmp 5), (1, 1, .tmp 8), (2, 1, .tmp 13), (3, 1, .tmp 15), (4, 1, .tmp 17), (5, 1, .tmp 22), (6, 1, .tmp 24)], none⟩,
    ⟨none, .store (.tmp 4) (.tmp 25) 7, none⟩] [0, 0, 2, 6, 0, 0, 38, 118, 246, 0, 614, 0, 3686, 0, 0, 24166, 65126, 130662, 0, 319078, 1048575, 2097151] [4])
  .ret))⟩
-- spec.l2Spoil
def c88 : CFn := ⟨47, [.cell 4 11 true],
  (.seq (.region [
    ⟨some 3, .box (.tmp 1), none⟩,
    ⟨some 4, .alloc [.str ⟨#[]⟩, .int .i64 0, .str ⟨#[]⟩, .int .i64 0, .int .i64 0, .int .i64 0, .int .i64 0, .int .i64 0, .int .i64 0, .int .i64 0, .int .i64 0], none⟩] [0, 3, 4])
  (.seq (.seq (.region [
    ⟨some 5, .mov (.tmp 0), none⟩,
    ⟨some 6, .call 89 [true, false] [.tmp 5, .const (.int .i64 6)], none⟩] [0, 3, 4, 6])
  (.block 0
    (.seq (.region [
      ⟨some 10, .bin .eql (.tmp 6) (.const (.int .i64 0)), none⟩,
      ⟨some 9, .mov (.tmp 10), none⟩] [0, 3, 4, 6, 9])
    (.cond (.tmp 9)
      (.region [
        ⟨some 11, .mov (.tmp 0), none⟩,
        ⟨some 12, .faddr (.tmp 3) 0, none⟩,
        ⟨some 13, .load (.tmp 12) 7 true .plain, none⟩,
        ⟨some 14, .call 144 [true, false] [.tmp 11, .tmp 13], none⟩,
        ⟨some 15, .faddr (.tmp 3) 0, none⟩,
        ⟨none, .store (.tmp 15) (.tmp 14) 7, none⟩] [3, 4])
      (.seq (.region [
        ⟨some 17, .bin .eql (.tmp 6) (.const (.int .i64 1)), none⟩,
        ⟨some 16, .mov (.tmp 17), none⟩] [0, 3, 4, 6, 16])
      (.cond (.tmp 16)
        (.region [
          ⟨some 18, .mov (.tmp 0), none⟩,
          ⟨some 19, .call 89 [true, false] [.tmp 18, .const (.int .i64 9)], none⟩,
          ⟨some 20, .bin .sub (.tmp 19) (.const (.int .i64 1)), none⟩,
          ⟨some 21, .faddr (.tmp 3) 7, none⟩,
          ⟨none, .store (.tmp 21) (.tmp 20) 1, none⟩] [3, 4])
        (.seq (.region [
          ⟨some 23, .bin .eql (.tmp 6) (.const (.int .i64 2)), none⟩,
          ⟨some 22, .mov (.tmp 23), none⟩] [0, 3, 4, 6, 22])
        (.cond (.tmp 22)
          (.region [
            ⟨some 24, .bslice 1 [.int .i64 0] 3 [(0, .const (.int .i64 (-1))), (1, .const (.int .i64 100)), (2, .const (.int .i64 101))], none⟩,
            ⟨some 25, .mov (.tmp 0), none⟩,
            ⟨some 26, .call 89 [true, false] [.tmp 25, .const (.int .i64 3)], none⟩,
            ⟨some 27, .iaddr 1 (.tmp 24) (.tmp 26), none⟩,
            ⟨some 28, .load (.tmp 27) 1 false .plain, none⟩,
            ⟨some 29, .faddr (.tmp 3) 8, none⟩,
            ⟨none, .store (.tmp 29) (.tmp 28) 1, none⟩] [3, 4])
          (.seq (.region [
            ⟨some 31, .bin .eql (.tmp 6) (.const (.int .i64 3)), none⟩,
            ⟨some 30, .mov (.tmp 31), none⟩] [0, 3, 4, 6, 30])
          (.cond (.tmp 30)
            (.region [
              ⟨some 32, .bslice 1 [.int .i64 0] 3 [(0, .const (.int .i64 (-1))), (1, .const (.int .i64 1000)), (2, .const (.int .i64 1001))], none⟩,
              ⟨some 33, .mov (.tmp 0), none⟩,
              ⟨some 34, .call 89 [true, false] [.tmp 33, .const (.int .i64 3)], none⟩,
              ⟨some 35, .iaddr 1 (.tmp 32) (.tmp 34), none⟩,
              ⟨some 36, .load (.tmp 35) 1 false .plain, none⟩,
              ⟨some 37, .faddr (.tmp 3) 9, none⟩,
              ⟨none, .store (.tmp 37) (.tmp 36) 1, none⟩] [3, 4])
            (.seq (.region [
              ⟨some 39, .bin .eql (.tmp 6) (.const (.int .i64 4)), none⟩,
              ⟨some 38, .mov (.tmp 39), none⟩] [0, 3, 4, 38])
            (.cond (.tmp 38)
              (.region [
                ⟨some 40, .bslice 1 [.int .i64 0] 5 [(0, .const (.int .i64 (-1))), (1, .const (.int .i64 0)), (2, .const (.int .i64 1)), (3, .const (.int .i64 1000016)), (4, .const (.int .i64 1000017))], none⟩,
                ⟨some 41, .mov (.tmp 0), none⟩,
                ⟨some 42, .call 89 [true, false] [.tmp 41, .const (.int .i64 5)], none⟩,
                ⟨some 43, .iaddr 1 (.tmp 40) (.tmp 42), none⟩,
                ⟨some 44, .load (.tmp 43) 1 false .plain, none⟩,
                ⟨some 45, .faddr (.tmp 3) 10, none⟩,
                ⟨none, .store (.tmp 45) (.tmp 44) 1, none⟩] [3, 4])
              (.region [
                ⟨some 7, .faddr (.tmp 3) 0, none⟩,
                ⟨some 8, .faddr (.tmp 7) 2, none⟩,
                ⟨none, .store (.tmp 8) (.const (.str ⟨#[]⟩)) 1, none⟩] [3, 4])))))))))))))
  (.seq (.region [
    ⟨some 46, .load (.tmp 3) 11 true .plain, none⟩,
    ⟨none, .store (.tmp 4) (.tmp 46) 11, none⟩] [4])
  .ret)))⟩
-- (*spec.l1Rd).pick
def c89 : CFn := ⟨99, [.tmp 4],
  (.seq (.region [
    ⟨some 4, .mov (.const (.int .i64 0)), none⟩] [0, 1])
  (.seq (.region [
    ⟨some 7, .mov (.tmp 0), none⟩,
    ⟨some 8, .mov (.tmp 0), none⟩,
    ⟨some 9, .nilck (.tmp 8), none⟩,
    ⟨some 10, .faddr (.tmp 9) 1, none⟩,
    ⟨some 11, .load (.tmp 10) 1 false .plain, none⟩,
    ⟨some 12, .bin .add (.tmp 11) (.const (.int .i64 1)), none⟩,
    ⟨some 13, .nilck (.tmp 7), none⟩,
    ⟨some 14, .faddr (.tmp 13) 1, none⟩,
    ⟨none, .store (.tmp 14) (.tmp 12) 1, none⟩] [0, 1])
  (.seq (.seq (.region [
    ⟨some 15, .mov (.tmp 1), none⟩,
    ⟨some 16, .bin .lss (.tmp 15) (.const (.int .i64 1)), none⟩,
    ⟨some 17, .mov (.tmp 16), none⟩,
    ⟨some 18, .mov (.tmp 0), some (17, false)⟩,
    ⟨some 19, .nilck (.tmp 18), some (17, false)⟩,
    ⟨some 20, .faddr (.tmp 19) 0, some (17, false)⟩,
    ⟨some 21, .load (.tmp 20) 1 false .plain, some (17, false)⟩,
    ⟨some 22, .len false (.tmp 21), some (17, false)⟩,
    ⟨some 23, .bin .eql (.tmp 22) (.const (.int .i64 0)), some (17, false)⟩,
    ⟨some 24, .pick (.tmp 17) (.const (.bool true)) (.tmp 23), none⟩] [0, 1, 24])
  (.cond (.tmp 24)
    (.seq (.region [
      ⟨some 4, .mov (.const (.int .i64 0)), none⟩] [4])
    .ret)
    .skip))
  (.seq (.region [
    ⟨some 25, .mov (.tmp 0), none⟩,
    ⟨some 26, .nilck (.tmp 25), none⟩,
    ⟨some 27, .faddr (.tmp 26) 1, none⟩,
    ⟨some 28, .load (.tmp 27) 1 false .plain, none⟩,
    ⟨some 29, .bin .sub (.tmp 28) (.const (.int .i64 1)), none⟩,
    ⟨some 5, .mov (.tmp 29), none⟩] [0, 1, 5])
  (.seq (.seq (.region [
    ⟨some 30, .mov (.tmp 5), none⟩,
    ⟨some 31, .mov (.tmp 0), none⟩,
    ⟨some 32, .nilck (.tmp 31), none⟩,
    ⟨some 33, .faddr (.tmp 32) 0, none⟩,
    ⟨some 34, .load (.tmp 33) 1 false .plain, none⟩,
    ⟨some 35, .len false (.tmp 34), none⟩,
    ⟨some 36, .bin .lss (.tmp 30) (.tmp 35), none⟩] [0, 1, 5, 36])
  (.cond (.tmp 36)
    (.seq (.region [
      ⟨some 37, .mov (.tmp 0), none⟩,
      ⟨some 38, .nilck (.tmp 37), none⟩,
      ⟨some 39, .faddr (.tmp 38) 0, none⟩,
      ⟨some 40, .load (.tmp 39) 1 false .plain, none⟩,
      ⟨some 41, .mov (.tmp 5), none⟩,
      ⟨some 42, .iaddr 1 (.tmp 40) (.tmp 41), none⟩,
      ⟨some 43, .load (.tmp 42) 1 false .plain, none⟩,
      ⟨some 44, .conv .i64 (.tmp 43), none⟩,
      ⟨some 45, .mov (.tmp 1), none⟩,
      ⟨some 46, .bin .rem (.tmp 44) (.tmp 45), none⟩,
      ⟨some 4, .mov (.tmp 46), none⟩] [4])
    .ret)
    .skip))
  (.seq (.quiet [
    ⟨some 47, .mov (.tmp 0), none⟩,
    ⟨some 48, .nilck (.tmp 47), none⟩,
    ⟨some 49, .faddr (.tmp 48) 0, none⟩,
    ⟨some 50, .load (.tmp 49) 1 false .plain, none⟩,
    ⟨some 51, .mov (.tmp 5), none⟩,
    ⟨some 52, .mov (.tmp 0), none⟩,
    ⟨some 53, .nilck (.tmp 52), none⟩,
    ⟨some 54, .faddr (.tmp 53) 0, none⟩,
    ⟨some 55, .load (.tmp 54) 1 false .plain, none⟩,
    ⟨some 56, .len false (.tmp 55), none⟩,
    ⟨some 57, .bin .rem (.tmp 51) (.tmp 56), none⟩,
    ⟨some 58, .iaddr 1 (.tmp 50) (.tmp 57), none⟩,
    ⟨some 59, .load (.tmp 58) 1 false .plain, none⟩,
    ⟨some 60, .conv .i64 (.tmp 59), none⟩,
    ⟨some 61, .bin .mul (.tmp 60) (.const (.int .i64 131)), none⟩,
    ⟨some 62, .mov (.tmp 0), none⟩,
    ⟨some 63, .nilck (.tmp 62), none⟩,
    ⟨some 64, .faddr (.tmp 63) 0, none⟩,
    ⟨some 65, .load (.tmp 64) 1 false .plain, none⟩,
    ⟨some 66, .mov (.tmp 5), none⟩,
    ⟨some 67, .bin .mul (.tmp 66) (.const (.int .i64 7)), none⟩,
    ⟨some 68, .bin .add (.tmp 67) (.const (.int .i64 3)), none⟩,
    ⟨some 69, .mov (.tmp 0), none⟩,
    ⟨some 70, .nilck (.tmp 69), none⟩,
    ⟨some 71, .faddr (.tmp 70) 0, none⟩,
    ⟨some 72, .load (.tmp 71) 1 false .plain, none⟩,
    ⟨some 73, .len false (.tmp 72), none⟩,
    ⟨some 74, .bin .rem (.tmp 68) (.tmp 73), none⟩,
    ⟨some 75, .iaddr 1 (.tmp 65) (.tmp 74), none⟩,
    ⟨some 76, .load (.tmp 75) 1 false .plain, none⟩,
    ⟨some 77, .conv .i64 (.tmp 76), none⟩,
    ⟨some 78, .bin .mul (.tmp 77) (.const (.int .i64 1117)), none⟩,
    ⟨some 79, .bin .add (.tmp 61) (.tmp 78), none⟩,
    ⟨some 80, .mov (.tmp 5), none⟩,
    ⟨some 81, .bin .mul (.tmp 80) (.const (.int .i64 29)), none⟩,
    ⟨some 82, .bin .add (.tmp 79) (.tmp 81), none⟩,
    ⟨some 83, .mov (.tmp 5), none⟩,
    ⟨some 84, .mov (.tmp 0), none⟩,
    ⟨some 85, .nilck (.tmp 84), none⟩,
    ⟨some 86, .faddr (.tmp 85) 0, none⟩,
    ⟨some 87, .load (.tmp 86) 1 false .plain, none⟩,
    ⟨some 88, .len false (.tmp 87), none⟩,
    ⟨some 89, .bin .quo (.tmp 83) (.tmp 88), none⟩,
    ⟨some 90, .bin .mul (.tmp 89) (.const (.int .i64 53)), none⟩,
    ⟨some 91, .bin .add (.tmp 82) (.tmp 90), none⟩,
    ⟨some 6, .mov (.tmp 91), none⟩] [1, 6])
  (.seq (.region [
    ⟨some 92, .mov (.tmp 6), none⟩,
    ⟨some 93, .mov (.tmp 6), none⟩,
    ⟨some 94, .bin .quo (.tmp 93) (.const (.int .i64 64)), none⟩,
    ⟨some 95, .bin .xor (.tmp 92) (.tmp 94), none⟩,
    ⟨some 6, .mov (.tmp 95), none⟩] [1, 6])
  (.seq (.region [
    ⟨some 96, .mov (.tmp 6), none⟩,
    ⟨some 97, .mov (.tmp 1), none⟩,
    ⟨some 98, .bin .rem (.tmp 96) (.tmp 97), none⟩,
    ⟨some 4, .mov (.tmp 98), none⟩] [4])
  .ret))))))))⟩
-- spec.l2Draw
def c90 : CFn := ⟨38, [.cell 6 11 true],
  (.seq (.region [
    ⟨some 6, .alloc [.str ⟨#[]⟩, .int .i64 0, .str ⟨#[]⟩, .int .i64 0, .int .i64 0, .int .i64 0, .int .i64 0, .int .i64 0, .int .i64 0, .int .i64 0, .int .i64 0], none⟩] [0, 1, 2, 6])
  (.seq (.region [
    ⟨some 8, .mov (.tmp 0), none⟩,
    ⟨some 9, .mov (.tmp 1), none⟩,
    ⟨some 10, .call 87 [true, false] [.tmp 8, .tmp 9], none⟩,
    ⟨some 11, .mov (.tmp 0), none⟩,
    ⟨some 12, .call 89 [true, false] [.tmp 11, .const (.int .i64 6)], none⟩,
    ⟨some 13, .bin .add (.const (.int .i64 1)) (.tmp 12), none⟩,
    ⟨some 14, .mov (.tmp 0), none⟩,
    ⟨some 15, .call 89 [true, false] [.tmp 14, .const (.int .i64 5)], none⟩,
    ⟨some 16, .mov (.tmp 0), none⟩,
    ⟨some 17, .call 89 [true, false] [.tmp 16, .const (.int .i64 6)], none⟩,
    ⟨some 18, .build [.str ⟨#[]⟩, .int .i64 0, .str ⟨#[]⟩, .int .i64 0, .int .i64 0, .int .i64 0, .int .i64 0, .int .i64 0, .int .i64 0, .int .i64 0, .int .i64 0] [(0, 7, .tmp 10), (7, 1, .tmp 13), (8, 1, .tmp 15), (9, 1, .tmp 17)], none⟩,
    ⟨some 7, .alloc [.str ⟨#[]⟩, .int .i64 0, .str ⟨#[]⟩, .int .i64 0, .int .i64 0, .int .i64 0, .int .i64 0, .int .i64 0, .int .i64 0, .int .i64 0, .int .i64 0], none⟩,
    ⟨none, .store (.tmp 7) (.tmp 18) 11, none⟩] [0, 2, 6, 7])
  (.seq (.seq (.region [
    ⟨some 19, .faddr (.tmp 7) 0, none⟩,
    ⟨some 20, .faddr (.tmp 19) 2, none⟩,
    ⟨some 21, .load (.tmp 20) 1 false .plain, none⟩,
    ⟨some 22, .bin .neq (.tmp 21) (.const (.str ⟨#[]⟩)), none⟩] [0, 2, 6, 7, 22])
  (.cond (.tmp 22)
    (.seq (.region [
      ⟨some 23, .mov (.tmp 2), none⟩,
      ⟨some 24, .mov (.tmp 0), none⟩,
      ⟨some 25, .call 89 [true, false] [.tmp 24, .const (.int .i64 14)], none⟩,
      ⟨some 26, .bin .add (.tmp 23) (.tmp 25), none⟩,
      ⟨some 27, .bin .sub (.tmp 26) (.const (.int .i64 4)), none⟩,
      ⟨some 28, .faddr (.tmp 7) 10, none⟩,
      ⟨none, .store (.tmp 28) (.tmp 27) 1, none⟩] [6, 7])
    (.seq (.region [
      ⟨some 29, .faddr (.tmp 7) 10, none⟩,
      ⟨some 30, .load (.tmp 29) 1 false .plain, none⟩,
      ⟨some 31, .bin .lss (.tmp 30) (.const (.int .i64 0)), none⟩] [6, 7, 31])
    (.cond (.tmp 31)
      (.region [
        ⟨some 32, .faddr (.tmp 7) 10, none⟩,
        ⟨none, .store (.tmp 32) (.const (.int .i64 0)) 1, none⟩] [6, 7])
      .skip)))
    .skip))
  (.seq (.seq (.region [
    ⟨some 33, .faddr (.tmp 7) 7, none⟩,
    ⟨some 34, .load (.tmp 33) 1 false .plain, none⟩,
    ⟨some 35, .bin .eql (.tmp 34) (.const (.int .i64 2)), none⟩] [6, 7, 35])
  (.cond (.tmp 35)
    (.region [
      ⟨some 36, .faddr (.tmp 7) 8, none⟩,
      ⟨none, .store (.tmp 36) (.const (.int .i64 0)) 1, none⟩] [6, 7])
    .skip))
  (.seq (.region [
    ⟨some 37, .load (.tmp 7) 11 true .plain, none⟩,
    ⟨none, .store (.tmp 6) (.tmp 37) 11, none⟩] [6])
  .ret)))))⟩
-- spec.l1Open
def c91 : CFn := ⟨11, [.tmp 2],
  (.seq (.region [
    ⟨some 2, .mov (.const (.any)), none⟩] [0])
  (.seq (.seq (.region [
    ⟨some 3, .mov (.tmp 0), none⟩,
    ⟨some 4, .len false (.tmp 3), none⟩,
    ⟨some 5, .bin .gtr (.tmp 4) (.const (.int .i64 2000)), none⟩] [0, 5])
  (.cond (.tmp 5)
    (.region [
      ⟨some 6, .mov (.tmp 0), none⟩,
      ⟨some 7, .slice 1 (.tmp 6) none (some (.const (.int .i64 2000))), none⟩,
      ⟨some 0, .mov (.tmp 7), none⟩] [0])
    .skip))
  (.seq (.region [
    ⟨some 8, .mov (.tmp 0), none⟩,
    ⟨some 9, .build [.sl .own 1 [], .int .i64 0] [(0, 1, .tmp 8)], none⟩,
    ⟨some 10, .box (.tmp 9), none⟩,
    ⟨some 2, .mov (.tmp 10), none⟩] [2])
  .ret)))⟩
-- spec.l2Leased
def c95 : CFn := ⟨16, [.tmp 4],
  (.seq (.region [
    ⟨some 2, .box (.tmp 0), none⟩,
    ⟨some 4, .mov (.const (.bool false)), none⟩] [1, 2])
  (.seq (.region [
    ⟨some 5, .faddr (.tmp 2) 0, none⟩,
    ⟨some 6, .faddr (.tmp 5) 2, none⟩,
    ⟨some 7, .load (.tmp 6) 1 false .plain, none⟩,
    ⟨some 8, .bin .eql (.tmp 7) (.const (.str ⟨#[]⟩)), none⟩,
    ⟨some 9, .mov (.tmp 8), none⟩,
    ⟨some 10, .faddr (.tmp 2) 10, some (9, false)⟩,
    ⟨some 11, .load (.tmp 10) 1 false .plain, some (9, false)⟩,
    ⟨some 12, .mov (.tmp 1), some (9, false)⟩,
    ⟨some 13, .bin .add (.tmp 12) (.const (.int .i64 4)), some (9, false)⟩,
    ⟨some 14, .bin .geq (.tmp 11) (.tmp 13), some (9, false)⟩,
    ⟨some 15, .pick (.tmp 9) (.const (.bool true)) (.tmp 14), none⟩,
    ⟨some 4, .mov (.tmp 15), none⟩] [4])
  .ret))⟩
-- spec.l1HoldOk
def c100 : CFn := ⟨9, [.tmp 2],
  (.seq (.region [
    ⟨some 2, .mov (.const (.bool false)), none⟩] [0])
  (.seq (.region [
    ⟨some 3, .mov (.tmp 0), none⟩,
    ⟨some 4, .call 101 [false] [.tmp 3], none⟩,
    ⟨some 5, .mov (.tmp 4), none⟩,
    ⟨some 6, .mov (.tmp 0), some (5, true)⟩,
    ⟨some 7, .bin .neq (.tmp 6) (.const (.str ⟨#[42]⟩)), some (5, true)⟩,
    ⟨some 8, .pick (.tmp 5) (.tmp 7) (.const (.bool false)), none⟩,
    ⟨some 2, .mov (.tmp 8), none⟩] [2])
  .ret))⟩
-- spec.l1NameOk
def c101b0 : CCode := (.seq (.seq (.region [
    ⟨some 8, .mov (.tmp 3), none⟩,
    ⟨some 9, .mov (.tmp 0), none⟩,
    ⟨some 10, .len true (.tmp 9), none⟩,
    ⟨some 11, .bin .lss (.tmp 8) (.tmp 10), none⟩] [0, 3, 11])
  (.cond (.tmp 11)
    .skip
    (.exit 0)))
  (.seq (.block 1
    (.seq (.region [
      ⟨some 14, .mov (.tmp 0), none⟩,
      ⟨some 15, .mov (.tmp 3), none⟩,
      ⟨some 16, .sidx (.tmp 14) (.tmp 15), none⟩,
      ⟨some 17, .bin .lss (.tmp 16) (.const (.int .u8 33)), none⟩,
      ⟨some 18, .mov (.tmp 17), none⟩,
      ⟨some 19, .mov (.tmp 0), some (18, false)⟩,
      ⟨some 20, .mov (.tmp 3), some (18, false)⟩,
      ⟨some 21, .sidx (.tmp 19) (.tmp 20), some (18, false)⟩,
      ⟨some 22, .bin .gtr (.tmp 21) (.const (.int .u8 126)), some (18, false)⟩,
      ⟨some 23, .pick (.tmp 18) (.const (.bool true)) (.tmp 22), none⟩] [0, 3, 23])
    (.cond (.tmp 23)
      (.seq (.region [
        ⟨some 2, .mov (.const (.bool false)), none⟩] [2])
      .ret)
      .skip)))
  (.region [
    ⟨some 12, .mov (.tmp 3), none⟩,
    ⟨some 13, .bin .add (.tmp 12) (.const (.int .i64 1)), none⟩,
    ⟨some 3, .mov (.tmp 13), none⟩] [0, 3])))
def c101 : CFn := ⟨24, [.tmp 2],
  (.seq (.region [
    ⟨some 2, .mov (.const (.bool false)), none⟩] [0])
  (.seq (.seq (.region [
    ⟨some 4, .mov (.tmp 0), none⟩,
    ⟨some 5, .len true (.tmp 4), none⟩,
    ⟨some 6, .call 102 [false, false, false] [.tmp 5, .const (.int .i64 1), .const (.int .i64 20)], none⟩,
    ⟨some 7, .un .not (.tmp 6), none⟩] [0, 7])
  (.cond (.tmp 7)
    (.seq (.region [
      ⟨some 2, .mov (.const (.bool false)), none⟩] [2])
    .ret)
    .skip))
  (.seq (.seq (.region [
    ⟨some 3, .mov (.const (.int .i64 0)), none⟩] [0, 3])
  (.block 0
    (.loop [0, 3] c101b0)))
  (.seq (.region [
    ⟨some 2, .mov (.const (.bool true)), none⟩] [2])
  .ret))))⟩
-- spec.l1In
def c102 : CFn := ⟨15, [.tmp 6],
  (.seq (.region [
    ⟨some 6, .mov (.const (.bool false)), none⟩] [0, 1, 2])
  (.seq (.region [
    ⟨some 7, .mov (.tmp 0), none⟩,
    ⟨some 8, .mov (.tmp 1), none⟩,
    ⟨some 9, .bin .geq (.tmp 7) (.tmp 8), none⟩,
    ⟨some 10, .mov (.tmp 9), none⟩,
    ⟨some 11, .mov (.tmp 0), some (10, true)⟩,
    ⟨some 12, .mov (.tmp 2), some (10, true)⟩,
    ⟨some 13, .bin .leq (.tmp 11) (.tmp 12), some (10, true)⟩,
    ⟨some 14, .pick (.tmp 10) (.tmp 13) (.const (.bool false)), none⟩,
    ⟨some 6, .mov (.tmp 14), none⟩] [6])
  .ret))⟩
-- impl.isName
def c105b0 : CCode := (.seq (.region [
    ⟨some 15, .bin .lss (.tmp 14) (.tmp 13), none⟩] [0, 13, 14, 15])
  (.seq (.cond (.tmp 15)
    .skip
    (.exit 0))
  (.seq (.block 1
    (.seq (.region [
      ⟨some 16, .mov (.tmp 14), none⟩,
      ⟨some 3, .mov (.tmp 16), none⟩] [0, 3, 13, 14])
    (.seq (.region [
      ⟨some 17, .mov (.tmp 0), none⟩,
      ⟨some 18, .mov (.tmp 3), none⟩,
      ⟨some 19, .sidx (.tmp 17) (.tmp 18), none⟩,
      ⟨some 20, .bin .lss (.tmp 19) (.const (.int .u8 33)), none⟩,
      ⟨some 21, .mov (.tmp 20), none⟩,
      ⟨some 22, .mov (.tmp 0), some (21, false)⟩,
      ⟨some 23, .mov (.tmp 3), some (21, false)⟩,
      ⟨some 24, .sidx (.tmp 22) (.tmp 23), some (21, false)⟩,
      ⟨some 25, .bin .gtr (.tmp 24) (.const (.int .u8 126)), some (21, false)⟩,
      ⟨some 26, .pick (.tmp 21) (.const (.bool true)) (.tmp 25), none⟩] [0, 13, 14, 26])
    (.cond (.tmp 26)
      (.seq (.region [
        ⟨some 2, .mov (.const (.bool false)), none⟩] [2])
      .ret)
      .skip))))
  (.region [
    ⟨some 27, .bin .add (.tmp 14) (.const (.int .i64 1)), none⟩,
    ⟨some 14, .mov (.tmp 27), none⟩] [0, 13, 14]))))
def c105 : CFn := ⟨28, [.tmp 2],
  (.seq (.region [
    ⟨some 2, .mov (.const (.bool false)), none⟩] [0])
  (.seq (.seq (.region [
    ⟨some 4, .mov (.tmp 0), none⟩,
    ⟨some 5, .len true (.tmp 4), none⟩,
    ⟨some 6, .bin .lss (.tmp 5) (.const (.int .i64 1)), none⟩,
    ⟨some 7, .mov (.tmp 6), none⟩,
    ⟨some 8, .mov (.tmp 0), some (7, false)⟩,
    ⟨some 9, .len true (.tmp 8), some (7, false)⟩,
    ⟨some 10, .bin .gtr (.tmp 9) (.const (.int .i64 20)), some (7, false)⟩,
    ⟨some 11, .pick (.tmp 7) (.const (.bool true)) (.tmp 10), none⟩] [0, 11])
  (.cond (.tmp 11)
    (.seq (.region [
      ⟨some 2, .mov (.const (.bool false)), none⟩] [2])
    .ret)
    .skip))
  (.seq (.seq (.region [
    ⟨some 12, .mov (.tmp 0), none⟩,
    ⟨some 13, .len true (.tmp 12), none⟩,
    ⟨some 14, .mov (.const (.int .i64 0)), none⟩] [0, 13, 14])
  (.block 0
    (.loop [0, 13, 14] c105b0)))
  (.seq (.region [
    ⟨some 2, .mov (.const (.bool true)), none⟩] [2])
  .ret))))⟩
-- impl.isHold
def c106 : CFn := ⟨9, [.tmp 2],
  (.seq (.region [
    ⟨some 2, .mov (.const (.bool false)), none⟩] [0])
  (.seq (.region [
    ⟨some 3, .mov (.tmp 0), none⟩,
    ⟨some 4, .call 105 [false] [.tmp 3], none⟩,
    ⟨some 5, .mov (.tmp 4), none⟩,
    ⟨some 6, .mov (.tmp 0), some (5, true)⟩,
    ⟨some 7, .bin .neq (.tmp 6) (.const (.str ⟨#[42]⟩)), some (5, true)⟩,
    ⟨some 8, .pick (.tmp 5) (.tmp 7) (.const (.bool false)), none⟩,
    ⟨some 2, .mov (.tmp 8), none⟩] [2])
  .ret))⟩
-- spec.l4Ask
def c110b0 : CCode := (.seq (.seq (.region [
    ⟨some 6, .mov (.tmp 5), none⟩,
    ⟨some 7, .mov (.tmp 0), none⟩,
    ⟨some 8, .len false (.tmp 7), none⟩,
    ⟨some 9, .bin .lss (.tmp 6) (.tmp 8), none⟩] [0, 1, 5, 9])
  (.cond (.tmp 9)
    .skip
    (.exit 0)))
  (.seq (.block 1
    (.seq (.region [
      ⟨some 12, .mov (.tmp 0), none⟩,
      ⟨some 13, .mov (.tmp 5), none⟩,
      ⟨some 14, .iaddr 4 (.tmp 12) (.tmp 13), none⟩,
      ⟨some 15, .faddr (.tmp 14) 0, none⟩,
      ⟨some 16, .load (.tmp 15) 1 false .plain, none⟩,
      ⟨some 17, .mov (.tmp 1), none⟩,
      ⟨some 18, .bin .eql (.tmp 16) (.tmp 17), none⟩] [0, 1, 5, 18])
    (.cond (.tmp 18)
      (.seq (.region [
        ⟨some 19, .mov (.tmp 5), none⟩,
        ⟨some 4, .mov (.tmp 19), none⟩] [4])
      .ret)
      .skip)))
  (.region [
    ⟨some 10, .mov (.tmp 5), none⟩,
    ⟨some 11, .bin .add (.tmp 10) (.const (.int .i64 1)), none⟩,
    ⟨some 5, .mov (.tmp 11), none⟩] [0, 1, 5])))
def c110 : CFn := ⟨20, [.tmp 4],
  (.seq (.region [
    ⟨some 4, .mov (.const (.int .i64 0)), none⟩] [0, 1])
  (.seq (.seq (.region [
    ⟨some 5, .mov (.const (.int .i64 0)), none⟩] [0, 1, 5])
  (.block 0
    (.loop [0, 1, 5] c110b0)))
  (.seq (.region [
    ⟨some 4, .mov (.const (.int .i64 (-1))), none⟩] [4])
  .ret)))⟩
-- spec.l4AsksOk
def c111b0 : CCode := (.seq (.seq (.region [
    ⟨some 10, .mov (.tmp 5), none⟩,
    ⟨some 11, .mov (.tmp 0), none⟩,
    ⟨some 12, .len false (.tmp 11), none⟩,
    ⟨some 13, .bin .lss (.tmp 10) (.tmp 12), none⟩] [0, 1, 5, 13])
  (.cond (.tmp 13)
    .skip
    (.exit 0)))
  (.seq (.block 1
    (.seq (.region [
      ⟨some 16, .mov (.tmp 0), none⟩,
      ⟨some 17, .mov (.tmp 5), none⟩,
      ⟨some 18, .iaddr 4 (.tmp 16) (.tmp 17), none⟩,
      ⟨some 19, .load (.tmp 18) 4 true .plain, none⟩,
      ⟨some 6, .alloc [.str ⟨#[]⟩, .str ⟨#[]⟩, .int .i64 0, .int .i64 0], none⟩,
      ⟨none, .store (.tmp 6) (.tmp 19) 4, none⟩] [0, 1, 5, 6])
    (.seq (.quiet [
      ⟨some 20, .faddr (.tmp 6) 0, none⟩,
      ⟨some 21, .load (.tmp 20) 1 false .plain, none⟩,
      ⟨some 22, .call 100 [false] [.tmp 21], none⟩,
      ⟨some 23, .un .not (.tmp 22), none⟩,
      ⟨some 24, .mov (.tmp 23), none⟩,
      ⟨some 25, .faddr (.tmp 6) 1, some (24, false)⟩,
      ⟨some 26, .load (.tmp 25) 1 false .plain, some (24, false)⟩,
      ⟨some 27, .call 101 [false] [.tmp 26], some (24, false)⟩,
      ⟨some 28, .un .not (.tmp 27), some (24, false)⟩,
      ⟨some 29, .pick (.tmp 24) (.const (.bool true)) (.tmp 28), none⟩,
      ⟨some 30, .mov (.tmp 29), none⟩,
      ⟨some 31, .faddr (.tmp 6) 3, some (30, false)⟩,
      ⟨some 32, .load (.tmp 31) 1 false .plain, some (30, false)⟩,
      ⟨some 33, .mov (.tmp 1), some (30, false)⟩,
      ⟨some 34, .call 102 [false, false, false] [.tmp 32, .const (.int .i64 0), .tmp 33], some (30, false)⟩,
      ⟨some 35, .un .not (.tmp 34), some (30, false)⟩,
      ⟨some 36, .pick (.tmp 30) (.const (.bool true)) (.tmp 35), none⟩,
      ⟨some 37, .mov (.tmp 36), none⟩,
      ⟨some 38, .faddr (.tmp 6) 2, some (37, false)⟩,
      ⟨some 39, .load (.tmp 38) 1 false .plain, some (37, false)⟩,
      ⟨some 40, .faddr (.tmp 6) 3, some (37, false)⟩,
      ⟨some 41, .load (.tmp 40) 1 false .plain, some (37, false)⟩,
      ⟨some 42, .call 102 [false, false, false] [.tmp 39, .const (.int .i64 0), .tmp 41], some (37, false)⟩,
      ⟨some 43, .un .not (.tmp 42), some (37, false)⟩,
      ⟨some 44, .pick (.tmp 37) (.const (.bool true)) (.tmp 43), none⟩,
      ⟨some 45, .mov (.tmp 44), none⟩,
      ⟨some 46, .mov (.tmp 5), some (45, false)⟩,
      ⟨some 47, .bin .gtr (.tmp 46) (.const (.int .i64 0)), some (45, false)⟩,
      ⟨some 48, .mov (.tmp 47), some (45, false)⟩,
      ⟨some 49, .mov (.tmp 0), some (48, true)⟩,
      ⟨some 50, .mov (.tmp 5), some (48, true)⟩,
      ⟨some 51, .bin .sub (.tmp 50) (.const (.int .i64 1)), some (48, true)⟩,
      ⟨some 52, .iaddr 4 (.tmp 49) (.tmp 51), some (48, true)⟩,
      ⟨some 53, .faddr (.tmp 52) 0, some (48, true)⟩,
      ⟨some 54, .load (.tmp 53) 1 false .plain, some (48, true)⟩,
      ⟨some 55, .faddr (.tmp 6) 0, some (48, true)⟩,
      ⟨some 56, .load (.tmp 55) 1 false .plain, some (48, true)⟩,
      ⟨some 57, .bin .geq (.tmp 54) (.tmp 56), some (48, true)⟩,
      ⟨some 58, .pick (.tmp 48) (.tmp 57) (.const (.bool false)), some (45, false)⟩,
      ⟨some 59, .pick (.tmp 45) (.const (.bool true)) (.tmp 58), none⟩] [0, 1, 5, 59])
    (.cond (.tmp 59)
      (.seq (.region [
        ⟨some 4, .mov (.const (.bool false)), none⟩] [4])
      .ret)
      .skip))))
  (.region [
    ⟨some 14, .mov (.tmp 5), none⟩,
    ⟨some 15, .bin .add (.tmp 14) (.const (.int .i64 1)), none⟩,
    ⟨some 5, .mov (.tmp 15), none⟩] [0, 1, 5])))
def c111 : CFn := ⟨60, [.tmp 4],
  (.seq (.region [
    ⟨some 4, .mov (.const (.bool false)), none⟩] [0, 1])
  (.seq (.seq (.region [
    ⟨some 7, .mov (.tmp 0), none⟩,
    ⟨some 8, .len false (.tmp 7), none⟩,
    ⟨some 9, .bin .gtr (.tmp 8) (.const (.int .i64 40)), none⟩] [0, 1, 9])
  (.cond (.tmp 9)
    (.seq (.region [
      ⟨some 4, .mov (.const (.bool false)), none⟩] [4])
    .ret)
    .skip))
  (.seq (.seq (.region [
    ⟨some 5, .mov (.const (.int .i64 0)), none⟩] [0, 1, 5])
  (.block 0
    (.loop [0, 1, 5] c111b0)))
  (.seq (.region [
    ⟨some 4, .mov (.const (.bool true)), none⟩] [4])
  .ret))))⟩
-- impl.askFor
def c113b0 : CCode := (.seq (.region [
    ⟨some 10, .bin .lss (.tmp 9) (.tmp 8), none⟩] [1, 7, 8, 9, 10])
  (.seq (.cond (.tmp 10)
    .skip
    (.exit 0))
  (.seq (.block 1
    (.seq (.region [
      ⟨some 11, .mov (.tmp 9), none⟩,
      ⟨some 12, .iaddr 4 (.tmp 7) (.tmp 9), none⟩,
      ⟨some 13, .load (.tmp 12) 4 true .plain, none⟩,
      ⟨some 6, .alloc [.str ⟨#[]⟩, .str ⟨#[]⟩, .int .i64 0, .int .i64 0], none⟩,
      ⟨some 5, .mov (.tmp 11), none⟩,
      ⟨none, .store (.tmp 6) (.tmp 13) 4, none⟩] [1, 5, 6, 7, 8, 9])
    (.seq (.region [
      ⟨some 14, .faddr (.tmp 6) 0, none⟩,
      ⟨some 15, .load (.tmp 14) 1 false .plain, none⟩,
      ⟨some 16, .mov (.tmp 1), none⟩,
      ⟨some 17, .bin .eql (.tmp 15) (.tmp 16), none⟩] [1, 5, 7, 8, 9, 17])
    (.cond (.tmp 17)
      (.seq (.region [
        ⟨some 18, .mov (.tmp 5), none⟩,
        ⟨some 4, .mov (.tmp 18), none⟩] [4])
      .ret)
      .skip))))
  (.region [
    ⟨some 19, .bin .add (.tmp 9) (.const (.int .i64 1)), none⟩,
    ⟨some 9, .mov (.tmp 19), none⟩] [1, 7, 8, 9]))))
def c113 : CFn := ⟨20, [.tmp 4],
  (.seq (.region [
    ⟨some 4, .mov (.const (.int .i64 0)), none⟩] [0, 1])
  (.seq (.seq (.region [
    ⟨some 7, .mov (.tmp 0), none⟩,
    ⟨some 8, .len false (.tmp 7), none⟩,
    ⟨some 9, .mov (.const (.int .i64 0)), none⟩] [1, 7, 8, 9])
  (.block 0
    (.loop [1, 7, 8, 9] c113b0)))
  (.seq (.region [
    ⟨some 4, .mov (.const (.int .i64 (-1))), none⟩] [4])
  .ret)))⟩
-- impl.asksOk
def c114b0 : CCode := (.seq (.region [
    ⟨some 10, .bin .lss (.tmp 9) (.tmp 8), none⟩] [0, 1, 7, 8, 9, 10])
  (.seq (.cond (.tmp 10)
    .skip
    (.exit 0))
  (.seq (.block 1
    (.seq (.region [
      ⟨some 11, .mov (.tmp 9), none⟩,
      ⟨some 12, .iaddr 4 (.tmp 7) (.tmp 9), none⟩,
      ⟨some 13, .load (.tmp 12) 4 true .plain, none⟩,
      ⟨some 6, .alloc [.str ⟨#[]⟩, .str ⟨#[]⟩, .int .i64 0, .int .i64 0], none⟩,
      ⟨some 5, .mov (.tmp 11), none⟩,
      ⟨none, .store (.tmp 6) (.tmp 13) 4, none⟩] [0, 1, 5, 6, 7, 8, 9])
    (.seq (.quiet [
      ⟨some 14, .faddr (.tmp 6) 0, none⟩,
      ⟨some 15, .load (.tmp 14) 1 false .plain, none⟩,
      ⟨some 16, .call 106 [false] [.tmp 15], none⟩,
      ⟨some 17, .un .not (.tmp 16), none⟩,
      ⟨some 18, .mov (.tmp 17), none⟩,
      ⟨some 19, .faddr (.tmp 6) 1, some (18, false)⟩,
      ⟨some 20, .load (.tmp 19) 1 false .plain, some (18, false)⟩,
      ⟨some 21, .call 105 [false] [.tmp 20], some (18, false)⟩,
      ⟨some 22, .un .not (.tmp 21), some (18, false)⟩,
      ⟨some 23, .pick (.tmp 18) (.const (.bool true)) (.tmp 22), none⟩,
      ⟨some 24, .mov (.tmp 23), none⟩,
      ⟨some 25, .mov (.tmp 5), some (24, false)⟩,
      ⟨some 26, .bin .gtr (.tmp 25) (.const (.int .i64 0)), some (24, false)⟩,
      ⟨some 27, .mov (.tmp 26), some (24, false)⟩,
      ⟨some 28, .mov (.tmp 0), some (27, true)⟩,
      ⟨some 29, .mov (.tmp 5), some (27, true)⟩,
      ⟨some 30, .bin .sub (.tmp 29) (.const (.int .i64 1)), some (27, true)⟩,
      ⟨some 31, .iaddr 4 (.tmp 28) (.tmp 30), some (27, true)⟩,
      ⟨some 32, .faddr (.tmp 31) 0, some (27, true)⟩,
      ⟨some 33, .load (.tmp 32) 1 false .plain, some (27, true)⟩,
      ⟨some 34, .faddr (.tmp 6) 0, some (27, true)⟩,
      ⟨some 35, .load (.tmp 34) 1 false .plain, some (27, true)⟩,
      ⟨some 36, .bin .geq (.tmp 33) (.tmp 35), some (27, true)⟩,
      ⟨some 37, .pick (.tmp 27) (.tmp 36) (.const (.bool false)), some (24, false)⟩,
      ⟨some 38, .pick (.tmp 24) (.const (.bool true)) (.tmp 37), none⟩,
      ⟨some 39, .mov (.tmp 38), none⟩,
      ⟨some 40, .faddr (.tmp 6) 2, some (39, false)⟩,
      ⟨some 41, .load (.tmp 40) 1 false .plain, some (39, false)⟩,
      ⟨some 42, .bin .lss (.tmp 41) (.const (.int .i64 0)), some (39, false)⟩,
      ⟨some 43, .pick (.tmp 39) (.const (.bool true)) (.tmp 42), none⟩,
      ⟨some 44, .mov (.tmp 43), none⟩,
      ⟨some 45, .faddr (.tmp 6) 2, some (44, false)⟩,
      ⟨some 46, .load (.tmp 45) 1 false .plain, some (44, false)⟩,
      ⟨some 47, .faddr (.tmp 6) 3, some (44, false)⟩,
      ⟨some 48, .load (.tmp 47) 1 false .plain, some (44, false)⟩,
      ⟨some 49, .bin .gtr (.tmp 46) (.tmp 48), some (44, false)⟩,
      ⟨some 50, .pick (.tmp 44) (.const (.bool true)) (.tmp 49), none⟩,
      ⟨some 51, .mov (.tmp 50), none⟩,
      ⟨some 52, .faddr (.tmp 6) 3, some (51, false)⟩,
      ⟨some 53, .load (.tmp 52) 1 false .plain, some (51, false)⟩,
      ⟨some 54, .mov (.tmp 1), some (51, false)⟩,
      ⟨some 55, .bin .gtr (.tmp 53) (.tmp 54), some (51, false)⟩,
      ⟨some 56, .pick (.tmp 51) (.const (.bool true)) (.tmp 55), none⟩] [0, 1, 7, 8, 9, 56])
    (.cond (.tmp 56)
      (.seq (.region [
        ⟨some 4, .mov (.const (.bool false)), none⟩] [4])
      .ret)
      .skip))))
  (.region [
    ⟨some 57, .bin .add (.tmp 9) (.const (.int .i64 1)), none⟩,
    ⟨some 9, .mov (.tmp 57), none⟩] [0, 1, 7, 8, 9]))))
def c114 : CFn := ⟨61, [.tmp 4],
  (.seq (.region [
    ⟨some 4, .mov (.const (.bool false)), none⟩] [0, 1])
  (.seq (.seq (.region [
    ⟨some 7, .mov (.tmp 0), none⟩,
    ⟨some 8, .len false (.tmp 7), none⟩,
    ⟨some 9, .mov (.const (.int .i64 0)), none⟩] [0, 1, 7, 8, 9])
  (.block 0
    (.loop [0, 1, 7, 8, 9] c114b0)))
  (.seq (.region [
    ⟨some 58, .mov (.tmp 0), none⟩,
    ⟨some 59, .len false (.tmp 58), none⟩,
    ⟨some 60, .bin .leq (.tmp 59) (.const (.int .i64 40)), none⟩,
    ⟨some 4, .mov (.tmp 60), none⟩] [4])
  .ret)))⟩
-- spec.l4Any
def c116b0 : CCode := (.seq (.seq (.region [
    ⟨some 30, .mov (.tmp 5), none⟩,
    ⟨some 31, .faddr (.tmp 3) 6, none⟩,
    ⟨some 32, .load (.tmp 31) 1 false .plain, none⟩,
    ⟨some 33, .len false (.tmp 32), none⟩,
    ⟨some 34, .bin .lss (.tmp 30) (.tmp 33), none⟩] [2, 3, 4, 5, 34])
  (.cond (.tmp 34)
    .skip
    (.exit 1)))
  (.seq (.block 2
    (.seq (.region [
      ⟨some 37, .faddr (.tmp 3) 6, none⟩,
      ⟨some 38, .load (.tmp 37) 1 false .plain, none⟩,
      ⟨some 39, .mov (.tmp 5), none⟩,
      ⟨some 40, .iaddr 11 (.tmp 38) (.tmp 39), none⟩,
      ⟨some 41, .faddr (.tmp 40) 0, none⟩,
      ⟨some 42, .faddr (.tmp 41) 2, none⟩,
      ⟨some 43, .load (.tmp 42) 1 false .plain, none⟩,
      ⟨some 44, .bin .neq (.tmp 43) (.const (.str ⟨#[]⟩)), none⟩] [2, 3, 4, 5, 44])
    (.cond (.tmp 44)
      (.loud [
        ⟨some 45, .faddr (.tmp 3) 6, none⟩,
        ⟨some 46, .load (.tmp 45) 1 false .plain, none⟩,
        ⟨some 47, .mov (.tmp 5), none⟩,
        ⟨some 48, .faddr (.tmp 3) 6, none⟩,
        ⟨some 49, .load (.tmp 48) 1 false .plain, none⟩,
        ⟨some 50, .mov (.tmp 5), none⟩,
        ⟨some 51, .iaddr 11 (.tmp 49) (.tmp 50), none⟩,
        ⟨some 52, .faddr (.tmp 51) 10, none⟩,
        ⟨some 53, .load (.tmp 52) 1 false .plain, none⟩,
        ⟨some 54, .mov (.tmp 4), none⟩,
        ⟨some 55, .bin .add (.tmp 53) (.tmp 54), none⟩,
        ⟨some 56, .iaddr 11 (.tmp 46) (.tmp 47), none⟩,
        ⟨some 57, .faddr (.tmp 56) 10, none⟩,
        ⟨none, .store (.tmp 57) (.tmp 55) 1, none⟩] [0, 1, 0, 0, 8, 0, 56, 120, 248, 0, 1016, 2047, 4095, 8191] [2, 3, 4, 5])
      .skip)))
  (.region [
    ⟨some 35, .mov (.tmp 5), none⟩,
    ⟨some 36, .bin .add (.tmp 35) (.const (.int .i64 1)), none⟩,
    ⟨some 5, .mov (.tmp 36), none⟩] [2, 3, 4, 5])))
def c116b1 : CCode := (.seq (.seq (.loud [
    ⟨some 62, .faddr (.tmp 3) 6, none⟩,
    ⟨some 63, .load (.tmp 62) 1 false .plain, none⟩,
    ⟨some 64, .len false (.tmp 63), none⟩,
    ⟨some 65, .mov (.tmp 0), none⟩,
    ⟨some 66, .call 89 [true, false] [.tmp 65, .const (.int .i64 2)], none⟩,
    ⟨some 67, .bin .sub (.const (.int .i64 20)) (.tmp 66), none⟩,
    ⟨some 68, .bin .lss (.tmp 64) (.tmp 67), none⟩] [0, 1, 3, 0, 8, 24, 63] [0, 2, 3, 6, 68])
  (.cond (.tmp 68)
    .skip
    (.exit 3)))
  (.seq (.block 4
    (.region [
      ⟨some 71, .faddr (.tmp 3) 6, none⟩,
      ⟨some 72, .load (.tmp 71) 1 false .plain, none⟩,
      ⟨some 73, .mov (.tmp 6), none⟩,
      ⟨some 74, .bin .add (.const (.int .i64 97)) (.tmp 73), none⟩,
      ⟨some 75, .conv .u8 (.tmp 74), none⟩,
      ⟨some 76, .bslice 1 [.int .u8 0] 1 [(0, .tmp 75)], none⟩,
      ⟨some 77, .toStr (.tmp 76), none⟩,
      ⟨some 78, .bin .add (.const (.str ⟨#[100]⟩)) (.tmp 77), none⟩,
      ⟨some 79, .build [.str ⟨#[]⟩, .int .i64 0, .str ⟨#[]⟩, .int .i64 0, .int .i64 0, .int .i64 0, .int .i64 0] [(0, 1, .tmp 78), (1, 1, .const (.int .i64 1)), (6, 1, .const (.int .i64 2))], none⟩,
      ⟨some 80, .build [.str ⟨#[]⟩, .int .i64 0, .str ⟨#[]⟩, .int .i64 0, .int .i64 0, .int .i64 0, .int .i64 0, .int .i64 0, .int .i64 0, .int .i64 0, .int .i64 0] [(0, 7, .tmp 79), (7, 1, .const (.int .i64 4))], none⟩,
      ⟨some 81, .bslice 11 [.str ⟨#[]⟩, .int .i64 0, .str ⟨#[]⟩, .int .i64 0, .int .i64 0, .int .i64 0, .int .i64 0, .int .i64 0, .int .i64 0, .int .i64 0, .int .i64 0] 1 [(0, .tmp 80)], none⟩,
      ⟨some 82, .append 11 104 true (.tmp 72) (.tmp 81), none⟩,
      ⟨some 83, .faddr (.tmp 3) 6, none⟩,
      ⟨none, .store (.tmp 83) (.tmp 82) 1, none⟩] [0, 2, 3, 6]))
  (.region [
    ⟨some 69, .mov (.tmp 6), none⟩,
    ⟨some 70, .bin .add (.tmp 69) (.const (.int .i64 1)), none⟩,
    ⟨some 6, .mov (.tmp 70), none⟩] [0, 2, 3, 6])))
def c116 : CFn := ⟨85, [.cell 2 9 true],
  (.seq (.region [
    ⟨some 2, .alloc [.str ⟨#[]⟩, .bool false, .int .i64 0, .bool false, .int .i64 0, .sl .own 7 [], .sl .own 11 [], .sl .own 4 [], .sl .own 4 []], none⟩] [0, 2])
  (.seq (.region [
    ⟨some 7, .mov (.tmp 0), none⟩,
    ⟨some 8, .call 156 [true] [.tmp 7], none⟩,
    ⟨some 3, .alloc [.str ⟨#[]⟩, .bool false, .int .i64 0, .bool false, .int .i64 0, .sl .own 7 [], .sl .own 11 [], .sl .own 4 [], .sl .own 4 []], none⟩,
    ⟨none, .store (.tmp 3) (.tmp 8) 9, none⟩] [0, 2, 3])
  (.seq (.seq (.region [
    ⟨some 9, .mov (.tmp 0), none⟩,
    ⟨some 10, .call 89 [true, false] [.tmp 9, .const (.int .i64 24)], none⟩] [0, 2, 3, 10])
  (.block 0
    (.seq (.seq (.region [
      ⟨some 12, .bin .eql (.tmp 10) (.const (.int .i64 0)), none⟩,
      ⟨some 11, .mov (.tmp 12), none⟩] [0, 2, 3, 10, 11])
    (.cond (.tmp 11)
      .skip
      (.region [
        ⟨some 13, .bin .eql (.tmp 10) (.const (.int .i64 1)), none⟩,
        ⟨some 11, .mov (.tmp 13), none⟩] [0, 2, 3, 10, 11])))
    (.cond (.tmp 11)
      (.seq (.region [
        ⟨some 14, .mov (.tmp 0), none⟩,
        ⟨some 15, .load (.tmp 3) 9 true .plain, none⟩,
        ⟨some 16, .call 155 [true, false] [.tmp 14, .tmp 15], none⟩,
        ⟨none, .store (.tmp 2) (.tmp 16) 9, none⟩] [2])
      .ret)
      (.seq (.region [
        ⟨some 18, .bin .eql (.tmp 10) (.const (.int .i64 2)), none⟩,
        ⟨some 17, .mov (.tmp 18), none⟩] [0, 2, 3, 10, 17])
      (.cond (.tmp 17)
        (.seq (.loud [
          ⟨some 19, .mov (.tmp 0), none⟩,
          ⟨some 20, .call 89 [true, false] [.tmp 19, .const (.int .i64 6)], none⟩,
          ⟨some 21, .bin .sub (.const (.int .i64 1000000)) (.tmp 20), none⟩,
          ⟨some 22, .faddr (.tmp 3) 2, none⟩,
          ⟨some 23, .load (.tmp 22) 1 false .plain, none⟩,
          ⟨some 24, .bin .sub (.tmp 21) (.tmp 23), none⟩,
          ⟨some 4, .mov (.tmp 24), none⟩] [0, 1, 3, 0, 8, 31, 63] [2, 3, 4])
        (.seq (.region [
          ⟨some 25, .faddr (.tmp 3) 2, none⟩,
          ⟨some 26, .load (.tmp 25) 1 false .plain, none⟩,
          ⟨some 27, .mov (.tmp 4), none⟩,
          ⟨some 28, .bin .add (.tmp 26) (.tmp 27), none⟩,
          ⟨some 29, .faddr (.tmp 3) 2, none⟩,
          ⟨none, .store (.tmp 29) (.tmp 28) 1, none⟩] [2, 3, 4])
        (.seq (.region [
          ⟨some 5, .mov (.const (.int .i64 0)), none⟩] [2, 3, 4, 5])
        (.block 1
          (.loop [2, 3, 4, 5] c116b0)))))
        (.seq (.region [
          ⟨some 59, .bin .eql (.tmp 10) (.const (.int .i64 3)), none⟩,
          ⟨some 58, .mov (.tmp 59), none⟩] [0, 2, 3, 58])
        (.cond (.tmp 58)
          (.seq (.region [
            ⟨some 60, .faddr (.tmp 3) 1, none⟩,
            ⟨some 61, .load (.tmp 60) 1 false .plain, none⟩] [0, 2, 3, 61])
          (.cond (.tmp 61)
            (.seq (.region [
              ⟨some 6, .mov (.const (.int .i64 0)), none⟩] [0, 2, 3, 6])
            (.block 3
              (.loop [0, 2, 3, 6] c116b1)))
            .skip))
          .skip))))))))
  (.seq (.region [
    ⟨some 84, .load (.tmp 3) 9 true .plain, none⟩,
    ⟨none, .store (.tmp 2) (.tmp 84) 9, none⟩] [2])
  .ret))))⟩
-- impl.copyMate
def c117 : CFn := ⟨20, [.cell 2 9 true],
  (.seq (.region [
    ⟨some 1, .box (.tmp 0), none⟩,
    ⟨some 2, .alloc [.str ⟨#[]⟩, .bool false, .int .i64 0, .bool false, .int .i64 0, .sl .own 7 [], .sl .own 11 [], .sl .own 4 [], .sl .own 4 []], none⟩] [1, 2])
  (.seq (.region [
    ⟨some 3, .faddr (.tmp 1) 5, none⟩,
    ⟨some 4, .load (.tmp 3) 1 false .plain, none⟩,
    ⟨some 5, .append 7 72 true (.const (.sl .own 7 [])) (.tmp 4), none⟩,
    ⟨some 6, .faddr (.tmp 1) 5, none⟩,
    ⟨none, .store (.tmp 6) (.tmp 5) 1, none⟩] [1, 2])
  (.seq (.region [
    ⟨some 7, .faddr (.tmp 1) 6, none⟩,
    ⟨some 8, .load (.tmp 7) 1 false .plain, none⟩,
    ⟨some 9, .append 11 104 true (.const (.sl .own 11 [])) (.tmp 8), none⟩,
    ⟨some 10, .faddr (.tmp 1) 6, none⟩,
    ⟨none, .store (.tmp 10) (.tmp 9) 1, none⟩] [1, 2])
  (.seq (.region [
    ⟨some 11, .faddr (.tmp 1) 7, none⟩,
    ⟨some 12, .load (.tmp 11) 1 false .plain, none⟩,
    ⟨some 13, .append 4 48 true (.const (.sl .own 4 [])) (.tmp 12), none⟩,
    ⟨some 14, .faddr (.tmp 1) 7, none⟩,
    ⟨none, .store (.tmp 14) (.tmp 13) 1, none⟩] [1, 2])
  (.seq (.region [
    ⟨some 15, .faddr (.tmp 1) 8, none⟩,
    ⟨some 16, .load (.tmp 15) 1 false .plain, none⟩,
    ⟨some 17, .append 4 48 true (.const (.sl .own 4 [])) (.tmp 16), none⟩,
    ⟨some 18, .faddr (.tmp 1) 8, none⟩,
    ⟨none, .store (.tmp 18) (.tmp 17) 1, none⟩] [1, 2])
  (.seq (.region [
    ⟨some 19, .load (.tmp 1) 9 true .plain, none⟩,
    ⟨none, .store (.tmp 2) (.tmp 19) 9, none⟩] [2])
  .ret))))))⟩
-- laws.wWants
def c118b0 : CCode := (.seq (.seq (.region [
    ⟨some 11, .mov (.tmp 5), none⟩,
    ⟨some 12, .mov (.tmp 0), none⟩,
    ⟨some 13, .len false (.tmp 12), none⟩,
    ⟨some 14, .bin .lss (.tmp 11) (.tmp 13), none⟩] [0, 1, 5, 14])
  (.cond (.tmp 14)
    .skip
    (.exit 0)))
  (.seq (.block 1
    (.seq (.quiet [
      ⟨some 17, .mov (.tmp 0), none⟩,
      ⟨some 18, .mov (.tmp 5), none⟩,
      ⟨some 19, .iaddr 7 (.tmp 17) (.tmp 18), none⟩,
      ⟨some 20, .load (.tmp 19) 7 true .plain, none⟩,
      ⟨some 21, .mov (.tmp 1), none⟩,
      ⟨some 22, .mov (.tmp 5), none⟩,
      ⟨some 23, .iaddr 7 (.tmp 21) (.tmp 22), none⟩,
      ⟨some 24, .load (.tmp 23) 7 true .plain, none⟩,
      ⟨some 25, .eqs true [.s, .i, .s, .i, .i, .i, .i] (.tmp 20) (.tmp 24), none⟩] [0, 1, 5, 25])
    (.cond (.tmp 25)
      (.seq (.region [
        ⟨some 4, .mov (.const (.bool false)), none⟩] [4])
      .ret)
      .skip)))
  (.region [
    ⟨some 15, .mov (.tmp 5), none⟩,
    ⟨some 16, .bin .add (.tmp 15) (.const (.int .i64 1)), none⟩,
    ⟨some 5, .mov (.tmp 16), none⟩] [0, 1, 5])))
def c118 : CFn := ⟨26, [.tmp 4],
  (.seq (.region [
    ⟨some 4, .mov (.const (.bool false)), none⟩] [0, 1])
  (.seq (.seq (.region [
    ⟨some 6, .mov (.tmp 0), none⟩,
    ⟨some 7, .len false (.tmp 6), none⟩,
    ⟨some 8, .mov (.tmp 1), none⟩,
    ⟨some 9, .len false (.tmp 8), none⟩,
    ⟨some 10, .bin .neq (.tmp 7) (.tmp 9), none⟩] [0, 1, 10])
  (.cond (.tmp 10)
    (.seq (.region [
      ⟨some 4, .mov (.const (.bool false)), none⟩] [4])
    .ret)
    .skip))
  (.seq (.seq (.region [
    ⟨some 5, .mov (.const (.int .i64 0)), none⟩] [0, 1, 5])
  (.block 0
    (.loop [0, 1, 5] c118b0)))
  (.seq (.region [
    ⟨some 4, .mov (.const (.bool true)), none⟩] [4])
  .ret))))⟩
-- laws.wAsks
def c119b0 : CCode := (.seq (.seq (.region [
    ⟨some 11, .mov (.tmp 5), none⟩,
    ⟨some 12, .mov (.tmp 0), none⟩,
    ⟨some 13, .len false (.tmp 12), none⟩,
    ⟨some 14, .bin .lss (.tmp 11) (.tmp 13), none⟩] [0, 1, 5, 14])
  (.cond (.tmp 14)
    .skip
    (.exit 0)))
  (.seq (.block 1
    (.seq (.quiet [
      ⟨some 17, .mov (.tmp 0), none⟩,
      ⟨some 18, .mov (.tmp 5), none⟩,
      ⟨some 19, .iaddr 4 (.tmp 17) (.tmp 18), none⟩,
      ⟨some 20, .load (.tmp 19) 4 true .plain, none⟩,
      ⟨some 21, .mov (.tmp 1), none⟩,
      ⟨some 22, .mov (.tmp 5), none⟩,
      ⟨some 23, .iaddr 4 (.tmp 21) (.tmp 22), none⟩,
      ⟨some 24, .load (.tmp 23) 4 true .plain, none⟩,
      ⟨some 25, .eqs true [.s, .s, .i, .i] (.tmp 20) (.tmp 24), none⟩] [0, 1, 5, 25])
    (.cond (.tmp 25)
      (.seq (.region [
        ⟨some 4, .mov (.const (.bool false)), none⟩] [4])
      .ret)
      .skip)))
  (.region [
    ⟨some 15, .mov (.tmp 5), none⟩,
    ⟨some 16, .bin .add (.tmp 15) (.const (.int .i64 1)), none⟩,
    ⟨some 5, .mov (.tmp 16), none⟩] [0, 1, 5])))
def c119 : CFn := ⟨26, [.tmp 4],
  (.seq (.region [
    ⟨some 4, .mov (.const (.bool false)), none⟩] [0, 1])
  (.seq (.seq (.region [
    ⟨some 6, .mov (.tmp 0), none⟩,
    ⟨some 7, .len false (.tmp 6), none⟩,
    ⟨some 8, .mov (.tmp 1), none⟩,
    ⟨some 9, .len false (.tmp 8), none⟩,
    ⟨some 10, .bin .neq (.tmp 7) (.tmp 9), none⟩] [0, 1, 10])
  (.cond (.tmp 10)
    (.seq (.region [
      ⟨some 4, .mov (.const (.bool false)), none⟩] [4])
    .ret)
    .skip))
  (.seq (.seq (.region [
    ⟨some 5, .mov (.const (.int .i64 0)), none⟩] [0, 1, 5])
  (.block 0
    (.loop [0, 1, 5] c119b0)))
  (.seq (.region [
    ⟨some 4, .mov (.const (.bool true)), none⟩] [4])
  .ret))))⟩
-- spec.l4Copy
def c120 : CFn := ⟨24, [.cell 2 9 true],
  (.seq (.region [
    ⟨some 1, .box (.tmp 0), none⟩,
    ⟨some 2, .alloc [.str ⟨#[]⟩, .bool false, .int .i64 0, .bool false, .int .i64 0, .sl .own 7 [], .sl .own 11 [], .sl .own 4 [], .sl .own 4 []], none⟩] [1, 2])
  (.seq (.region [
    ⟨some 3, .bslice 7 [.str ⟨#[]⟩, .int .i64 0, .str ⟨#[]⟩, .int .i64 0, .int .i64 0, .int .i64 0, .int .i64 0] 0 [], none⟩,
    ⟨some 4, .faddr (.tmp 1) 5, none⟩,
    ⟨some 5, .load (.tmp 4) 1 false .plain, none⟩,
    ⟨some 6, .append 7 72 true (.tmp 3) (.tmp 5), none⟩,
    ⟨some 7, .faddr (.tmp 1) 5, none⟩,
    ⟨none, .store (.tmp 7) (.tmp 6) 1, none⟩] [1, 2])
  (.seq (.region [
    ⟨some 8, .bslice 11 [.str ⟨#[]⟩, .int .i64 0, .str ⟨#[]⟩, .int .i64 0, .int .i64 0, .int .i64 0, .int .i64 0, .int .i64 0, .int .i64 0, .int .i64 0, .int .i64 0] 0 [], none⟩,
    ⟨some 9, .faddr (.tmp 1) 6, none⟩,
    ⟨some 10, .load (.tmp 9) 1 false .plain, none⟩,
    ⟨some 11, .append 11 104 true (.tmp 8) (.tmp 10), none⟩,
    ⟨some 12, .faddr (.tmp 1) 6, none⟩,
    ⟨none, .store (.tmp 12) (.tmp 11) 1, none⟩] [1, 2])
  (.seq (.region [
    ⟨some 13, .bslice 4 [.str ⟨#[]⟩, .str ⟨#[]⟩, .int .i64 0, .int .i64 0] 0 [], none⟩,
    ⟨some 14, .faddr (.tmp 1) 7, none⟩,
    ⟨some 15, .load (.tmp 14) 1 false .plain, none⟩,
    ⟨some 16, .append 4 48 true (.tmp 13) (.tmp 15), none⟩,
    ⟨some 17, .faddr (.tmp 1) 7, none⟩,
    ⟨none, .store (.tmp 17) (.tmp 16) 1, none⟩] [1, 2])
  (.seq (.region [
    ⟨some 18, .bslice 4 [.str ⟨#[]⟩, .str ⟨#[]⟩, .int .i64 0, .int .i64 0] 0 [], none⟩,
    ⟨some 19, .faddr (.tmp 1) 8, none⟩,
    ⟨some 20, .load (.tmp 19) 1 false .plain, none⟩,
    ⟨some 21, .append 4 48 true (.tmp 18) (.tmp 20), none⟩,
    ⟨some 22, .faddr (.tmp 1) 8, none⟩,
    ⟨none, .store (.tmp 22) (.tmp 21) 1, none⟩] [1, 2])
  (.seq (.region [
    ⟨some 23, .load (.tmp 1) 9 true .plain, none⟩,
    ⟨none, .store (.tmp 2) (.tmp 23) 9, none⟩] [2])
  .ret))))))⟩
-- spec.l7Dec
def c140 : CFn := ⟨20, [.tmp 2],
  (.seq (.region [
    ⟨some 2, .mov (.const (.str ⟨#[]⟩)), none⟩] [0])
  (.seq (.seq (.region [
    ⟨some 3, .mov (.tmp 0), none⟩,
    ⟨some 4, .bin .lss (.tmp 3) (.const (.int .i64 10)), none⟩] [0, 4])
  (.cond (.tmp 4)
    (.seq (.region [
      ⟨some 5, .mov (.tmp 0), none⟩,
      ⟨some 6, .bin .add (.const (.int .i64 48)) (.tmp 5), none⟩,
      ⟨some 7, .conv .u8 (.tmp 6), none⟩,
      ⟨some 8, .bslice 1 [.int .u8 0] 1 [(0, .tmp 7)], none⟩,
      ⟨some 9, .toStr (.tmp 8), none⟩,
      ⟨some 2, .mov (.tmp 9), none⟩] [2])
    .ret)
    .skip))
  (.seq (.loud [
    ⟨some 10, .mov (.tmp 0), none⟩,
    ⟨some 11, .bin .quo (.tmp 10) (.const (.int .i64 10)), none⟩,
    ⟨some 12, .call 140 [false] [.tmp 11], none⟩,
    ⟨some 13, .mov (.tmp 0), none⟩,
    ⟨some 14, .bin .rem (.tmp 13) (.const (.int .i64 10)), none⟩,
    ⟨some 15, .bin .add (.const (.int .i64 48)) (.tmp 14), none⟩,
    ⟨some 16, .conv .u8 (.tmp 15), none⟩,
    ⟨some 17, .bslice 1 [.int .u8 0] 1 [(0, .tmp 16)], none⟩,
    ⟨some 18, .toStr (.tmp 17), none⟩,
    ⟨some 19, .bin .add (.tmp 12) (.tmp 18), none⟩,
    ⟨some 2, .mov (.tmp 19), none⟩] [0, 1, 3, 0, 8, 24, 56, 120, 248, 511, 1023] [2])
  .ret)))⟩
-- spec.l1SpoilWant
def c144 : CFn := ⟨66, [.cell 4 7 true],
  (.seq (.region [
    ⟨some 3, .box (.tmp 1), none⟩,
    ⟨some 4, .alloc [.str ⟨#[]⟩, .int .i64 0, .str ⟨#[]⟩, .int .i64 0, .int .i64 0, .int .i64 0, .int .i64 0], none⟩] [0, 3, 4])
  (.seq (.seq (.region [
    ⟨some 5, .mov (.tmp 0), none⟩,
    ⟨some 6, .call 89 [true, false] [.tmp 5, .const (.int .i64 7)], none⟩] [0, 3, 4, 6])
  (.block 0
    (.seq (.region [
      ⟨some 14, .bin .eql (.tmp 6) (.const (.int .i64 0)), none⟩,
      ⟨some 13, .mov (.tmp 14), none⟩] [0, 3, 4, 6, 13])
    (.cond (.tmp 13)
      (.region [
        ⟨some 15, .mov (.tmp 0), none⟩,
        ⟨some 16, .call 89 [true, false] [.tmp 15, .const (.int .i64 2)], none⟩,
        ⟨some 17, .bin .add (.const (.int .i64 20)) (.tmp 16), none⟩,
        ⟨some 18, .call 160 [false, false] [.const (.str ⟨#[110]⟩), .tmp 17], none⟩,
        ⟨some 19, .bslice 1 [.str ⟨#[]⟩] 3 [(0, .const (.str ⟨#[]⟩)), (1, .const (.str ⟨#[120, 32, 121]⟩)), (2, .tmp 18)], none⟩,
        ⟨some 20, .mov (.tmp 0), none⟩,
        ⟨some 21, .call 89 [true, false] [.tmp 20, .const (.int .i64 3)], none⟩,
        ⟨some 22, .iaddr 1 (.tmp 19) (.tmp 21), none⟩,
        ⟨some 23, .load (.tmp 22) 1 false .plain, none⟩,
        ⟨some 24, .faddr (.tmp 3) 0, none⟩,
        ⟨none, .store (.tmp 24) (.tmp 23) 1, none⟩] [3, 4])
      (.seq (.region [
        ⟨some 26, .bin .eql (.tmp 6) (.const (.int .i64 1)), none⟩,
        ⟨some 25, .mov (.tmp 26), none⟩] [0, 3, 4, 6, 25])
      (.cond (.tmp 25)
        (.region [
          ⟨some 27, .bslice 1 [.int .i64 0] 3 [(0, .const (.int .i64 0)), (1, .const (.int .i64 1000000)), (2, .const (.int .i64 1000001))], none⟩,
          ⟨some 28, .mov (.tmp 0), none⟩,
          ⟨some 29, .call 89 [true, false] [.tmp 28, .const (.int .i64 3)], none⟩,
          ⟨some 30, .iaddr 1 (.tmp 27) (.tmp 29), none⟩,
          ⟨some 31, .load (.tmp 30) 1 false .plain, none⟩,
          ⟨some 32, .faddr (.tmp 3) 1, none⟩,
          ⟨none, .store (.tmp 32) (.tmp 31) 1, none⟩] [3, 4])
        (.seq (.region [
          ⟨some 34, .bin .eql (.tmp 6) (.const (.int .i64 2)), none⟩,
          ⟨some 33, .mov (.tmp 34), none⟩] [0, 3, 4, 6, 33])
        (.cond (.tmp 33)
          (.region [
            ⟨some 35, .bslice 1 [.str ⟨#[]⟩] 3 [(0, .const (.str ⟨#[120, 32, 121]⟩)), (1, .const (.str ⟨#[42]⟩)), (2, .const (.str ⟨#[118, 111, 108]⟩))], none⟩,
            ⟨some 36, .mov (.tmp 0), none⟩,
            ⟨some 37, .call 89 [true, false] [.tmp 36, .const (.int .i64 3)], none⟩,
            ⟨some 38, .iaddr 1 (.tmp 35) (.tmp 37), none⟩,
            ⟨some 39, .load (.tmp 38) 1 false .plain, none⟩,
            ⟨some 40, .faddr (.tmp 3) 2, none⟩,
            ⟨none, .store (.tmp 40) (.tmp 39) 1, none⟩] [3, 4])
          (.seq (.region [
            ⟨some 42, .bin .eql (.tmp 6) (.const (.int .i64 3)), none⟩,
            ⟨some 41, .mov (.tmp 42), none⟩] [0, 3, 4, 6, 41])
          (.cond (.tmp 41)
            (.region [
              ⟨some 43, .bslice 1 [.int .i64 0] 3 [(0, .const (.int .i64 (-1))), (1, .const (.int .i64 100)), (2, .const (.int .i64 101))], none⟩,
              ⟨some 44, .mov (.tmp 0), none⟩,
              ⟨some 45, .call 89 [true, false] [.tmp 44, .const (.int .i64 3)], none⟩,
              ⟨some 46, .iaddr 1 (.tmp 43) (.tmp 45), none⟩,
              ⟨some 47, .load (.tmp 46) 1 false .plain, none⟩,
              ⟨some 48, .faddr (.tmp 3) 3, none⟩,
              ⟨none, .store (.tmp 48) (.tmp 47) 1, none⟩] [3, 4])
            (.seq (.region [
              ⟨some 50, .bin .eql (.tmp 6) (.const (.int .i64 4)), none⟩,
              ⟨some 49, .mov (.tmp 50), none⟩] [0, 3, 4, 6, 49])
            (.cond (.tmp 49)
              (.region [
                ⟨some 51, .bslice 1 [.int .i64 0] 3 [(0, .const (.int .i64 (-1))), (1, .const (.int .i64 100)), (2, .const (.int .i64 101))], none⟩,
                ⟨some 52, .mov (.tmp 0), none⟩,
                ⟨some 53, .call 89 [true, false] [.tmp 52, .const (.int .i64 3)], none⟩,
                ⟨some 54, .iaddr 1 (.tmp 51) (.tmp 53), none⟩,
                ⟨some 55, .load (.tmp 54) 1 false .plain, none⟩,
                ⟨some 56, .faddr (.tmp 3) 4, none⟩,
                ⟨none, .store (.tmp 56) (.tmp 55) 1, none⟩] [3, 4])
              (.seq (.region [
                ⟨some 58, .bin .eql (.tmp 6) (.const (.int .i64 5)), none⟩,
                ⟨some 57, .mov (.tmp 58), none⟩] [0, 3, 4, 57])
              (.cond (.tmp 57)
                (.region [
                  ⟨some 59, .bslice 1 [.int .i64 0] 3 [(0, .const (.int .i64 (-1))), (1, .const (.int .i64 100)), (2, .const (.int .i64 101))], none⟩,
                  ⟨some 60, .mov (.tmp 0), none⟩,
                  ⟨some 61, .call 89 [true, false] [.tmp 60, .const (.int .i64 3)], none⟩,
                  ⟨some 62, .iaddr 1 (.tmp 59) (.tmp 61), none⟩,
                  ⟨some 63, .load (.tmp 62) 1 false .plain, none⟩,
                  ⟨some 64, .faddr (.tmp 3) 5, none⟩,
                  ⟨none, .store (.tmp 64) (.tmp 63) 1, none⟩] [3, 4])
                (.region [
                  ⟨some 7, .bslice 1 [.int .i64 0] 3 [(0, .const (.int .i64 (-1))), (1, .const (.int .i64 100)), (2, .const (.int .i64 101))], none⟩,
                  ⟨some 8, .mov (.tmp 0), none⟩,
                  ⟨some 9, .call 89 [true, false] [.tmp 8, .const (.int .i64 3)], none⟩,
                  ⟨some 10, .iaddr 1 (.tmp 7) (.tmp 9), none⟩,
                  ⟨some 11, .load (.tmp 10) 1 false .plain, none⟩,
                  ⟨some 12, .faddr (.tmp 3) 6, none⟩,
                  ⟨none, .store (.tmp 12) (.tmp 11) 1, none⟩] [3, 4])))))))))))))))
  (.seq (.region [
    ⟨some 65, .load (.tmp 3) 7 true .plain, none⟩,
    ⟨none, .store (.tmp 4) (.tmp 65) 7, none⟩] [4])
  .ret)))⟩
-- spec.l1Wants
def c145b0 : CCode := (.seq (.seq (.region [
    ⟨some 7, .mov (.tmp 4), none⟩,
    ⟨some 8, .bin .lss (.tmp 7) (.const (.int .i64 4)), none⟩] [0, 3, 4, 8])
  (.cond (.tmp 8)
    .skip
    (.exit 0)))
  (.seq (.block 1
    (.seq (.region [
      ⟨some 11, .mov (.tmp 0), none⟩,
      ⟨some 12, .call 89 [true, false] [.tmp 11, .const (.int .i64 2)], none⟩,
      ⟨some 13, .bin .eql (.tmp 12) (.const (.int .i64 0)), none⟩] [0, 3, 4, 13])
    (.cond (.tmp 13)
      (.seq (.region [
        ⟨some 14, .mov (.tmp 0), none⟩,
        ⟨some 15, .mov (.tmp 4), none⟩,
        ⟨some 16, .call 140 [false] [.tmp 15], none⟩,
        ⟨some 17, .bin .add (.const (.str ⟨#[99]⟩)) (.tmp 16), none⟩,
        ⟨some 18, .call 87 [true, false] [.tmp 14, .tmp 17], none⟩,
        ⟨some 5, .alloc [.str ⟨#[]⟩, .int .i64 0, .str ⟨#[]⟩, .int .i64 0, .int .i64 0, .int .i64 0, .int .i64 0], none⟩,
        ⟨none, .store (.tmp 5) (.tmp 18) 7, none⟩] [0, 3, 4, 5])
      (.seq (.loud [
        ⟨some 19, .bslice 7 [.str ⟨#[]⟩, .int .i64 0, .str ⟨#[]⟩, .int .i64 0, .int .i64 0, .int .i64 0, .int .i64 0] 0 [], none⟩,
        ⟨some 20, .mov (.tmp 3), none⟩,
        ⟨some 21, .append 7 72 true (.tmp 19) (.tmp 20), none⟩,
        ⟨some 22, .load (.tmp 5) 7 true .plain, none⟩,
        ⟨some 23, .bslice 7 [.str ⟨#[]⟩, .int .i64 0, .str ⟨#[]⟩, .int .i64 0, .int .i64 0, .int .i64 0, .int .i64 0] 1 [(0, .tmp 22)], none⟩,
        ⟨some 24, .append 7 72 true (.tmp 21) (.tmp 23), none⟩,
        ⟨some 25, .call 7 [false] [.tmp 24], none⟩] [0, 0, 3, 0, 8, 31, 63] [0, 3, 4, 5, 25])
      (.cond (.tmp 25)
        (.region [
          ⟨some 26, .mov (.tmp 3), none⟩,
          ⟨some 27, .load (.tmp 5) 7 true .plain, none⟩,
          ⟨some 28, .bslice 7 [.str ⟨#[]⟩, .int .i64 0, .str ⟨#[]⟩, .int .i64 0, .int .i64 0, .int .i64 0, .int .i64 0] 1 [(0, .tmp 27)], none⟩,
          ⟨some 29, .append 7 72 true (.tmp 26) (.tmp 28), none⟩,
          ⟨some 3, .mov (.tmp 29), none⟩] [0, 3, 4])
        .skip)))
      .skip)))
  (.region [
    ⟨some 9, .mov (.tmp 4), none⟩,
    ⟨some 10, .bin .add (.tmp 9) (.const (.int .i64 1)), none⟩,
    ⟨some 4, .mov (.tmp 10), none⟩] [0, 3, 4])))
def c145 : CFn := ⟨31, [.tmp 2],
  (.seq (.region [
    ⟨some 2, .mov (.const (.sl .own 7 [])), none⟩] [0])
  (.seq (.region [
    ⟨some 6, .bslice 7 [.str ⟨#[]⟩, .int .i64 0, .str ⟨#[]⟩, .int .i64 0, .int .i64 0, .int .i64 0, .int .i64 0] 0 [], none⟩,
    ⟨some 3, .mov (.tmp 6), none⟩] [0, 3])
  (.seq (.seq (.region [
    ⟨some 4, .mov (.const (.int .i64 0)), none⟩] [0, 3, 4])
  (.block 0
    (.loop [0, 3, 4] c145b0)))
  (.seq (.region [
    ⟨some 30, .mov (.tmp 3), none⟩,
    ⟨some 2, .mov (.tmp 30), none⟩] [2])
  .ret))))⟩
-- spec.l4Spoil
def c155 : CFn := ⟨146, [.cell 4 9 true],
  (.seq (.region [
    ⟨some 3, .box (.tmp 1), none⟩,
    ⟨some 4, .alloc [.str ⟨#[]⟩, .bool false, .int .i64 0, .bool false, .int .i64 0, .sl .own 7 [], .sl .own 11 [], .sl .own 4 [], .sl .own 4 []], none⟩] [0, 3, 4])
  (.seq (.region [
    ⟨some 7, .load (.tmp 3) 9 true .plain, none⟩,
    ⟨some 8, .call 120 [false] [.tmp 7], none⟩,
    ⟨some 5, .alloc [.str ⟨#[]⟩, .bool false, .int .i64 0, .bool false, .int .i64 0, .sl .own 7 [], .sl .own 11 [], .sl .own 4 [], .sl .own 4 []], none⟩,
    ⟨none, .store (.tmp 5) (.tmp 8) 9, none⟩] [0, 4, 5])
  (.seq (.region [
    ⟨some 9, .mov (.tmp 0), none⟩,
    ⟨some 10, .faddr (.tmp 5) 6, none⟩,
    ⟨some 11, .load (.tmp 10) 1 false .plain, none⟩,
    ⟨some 12, .len false (.tmp 11), none⟩,
    ⟨some 13, .call 89 [true, false] [.tmp 9, .tmp 12], none⟩,
    ⟨some 6, .mov (.tmp 13), none⟩] [0, 4, 5, 6])
  (.seq (.seq (.region [
    ⟨some 14, .mov (.tmp 0), none⟩,
    ⟨some 15, .call 89 [true, false] [.tmp 14, .const (.int .i64 12)], none⟩] [0, 4, 5, 6, 15])
  (.block 0
    (.seq (.region [
      ⟨some 22, .bin .eql (.tmp 15) (.const (.int .i64 0)), none⟩,
      ⟨some 21, .mov (.tmp 22), none⟩] [0, 4, 5, 6, 15, 21])
    (.cond (.tmp 21)
      (.region [
        ⟨some 23, .bslice 1 [.str ⟨#[]⟩] 2 [(0, .const (.str ⟨#[]⟩)), (1, .const (.str ⟨#[120, 32, 121]⟩))], none⟩,
        ⟨some 24, .mov (.tmp 0), none⟩,
        ⟨some 25, .call 89 [true, false] [.tmp 24, .const (.int .i64 2)], none⟩,
        ⟨some 26, .iaddr 1 (.tmp 23) (.tmp 25), none⟩,
        ⟨some 27, .load (.tmp 26) 1 false .plain, none⟩,
        ⟨some 28, .faddr (.tmp 5) 0, none⟩,
        ⟨none, .store (.tmp 28) (.tmp 27) 1, none⟩] [4, 5])
      (.seq (.region [
        ⟨some 30, .bin .eql (.tmp 15) (.const (.int .i64 1)), none⟩,
        ⟨some 29, .mov (.tmp 30), none⟩] [0, 4, 5, 6, 15, 29])
      (.cond (.tmp 29)
        (.region [
          ⟨some 31, .faddr (.tmp 5) 1, none⟩,
          ⟨some 32, .load (.tmp 31) 1 false .plain, none⟩,
          ⟨some 33, .un .not (.tmp 32), none⟩,
          ⟨some 34, .faddr (.tmp 5) 1, none⟩,
          ⟨none, .store (.tmp 34) (.tmp 33) 1, none⟩] [4, 5])
        (.seq (.region [
          ⟨some 36, .bin .eql (.tmp 15) (.const (.int .i64 2)), none⟩,
          ⟨some 35, .mov (.tmp 36), none⟩] [0, 4, 5, 6, 15, 35])
        (.cond (.tmp 35)
          (.loud [
            ⟨some 37, .faddr (.tmp 5) 2, none⟩,
            ⟨some 38, .load (.tmp 37) 1 false .plain, none⟩,
            ⟨some 39, .bin .add (.tmp 38) (.const (.int .i64 9)), none⟩,
            ⟨some 40, .bslice 1 [.int .i64 0] 4 [(0, .const (.int .i64 (-1))), (1, .const (.int .i64 0)), (2, .tmp 39), (3, .const (.int .i64 1000001))], none⟩,
            ⟨some 41, .mov (.tmp 0), none⟩,
            ⟨some 42, .call 89 [true, false] [.tmp 41, .const (.int .i64 4)], none⟩,
            ⟨some 43, .iaddr 1 (.tmp 40) (.tmp 42), none⟩,
            ⟨some 44, .load (.tmp 43) 1 false .plain, none⟩,
            ⟨some 45, .faddr (.tmp 5) 2, none⟩,
            ⟨none, .store (.tmp 45) (.tmp 44) 1, none⟩] [0, 1, 3, 7, 0, 16, 63, 127, 255, 511] [4, 5])
          (.seq (.region [
            ⟨some 47, .bin .eql (.tmp 15) (.const (.int .i64 3)), none⟩,
            ⟨some 46, .mov (.tmp 47), none⟩] [0, 4, 5, 6, 15, 46])
          (.cond (.tmp 46)
            (.region [
              ⟨some 48, .faddr (.tmp 5) 3, none⟩,
              ⟨some 49, .load (.tmp 48) 1 false .plain, none⟩,
              ⟨some 50, .un .not (.tmp 49), none⟩,
              ⟨some 51, .faddr (.tmp 5) 3, none⟩,
              ⟨none, .store (.tmp 51) (.tmp 50) 1, none⟩] [4, 5])
            (.seq (.region [
              ⟨some 53, .bin .eql (.tmp 15) (.const (.int .i64 4)), none⟩,
              ⟨some 52, .mov (.tmp 53), none⟩] [0, 4, 5, 6, 15, 52])
            (.cond (.tmp 52)
              (.region [
                ⟨some 54, .bslice 1 [.int .i64 0] 3 [(0, .const (.int .i64 (-1))), (1, .const (.int .i64 1000000)), (2, .const (.int .i64 1000001))], none⟩,
                ⟨some 55, .mov (.tmp 0), none⟩,
                ⟨some 56, .call 89 [true, false] [.tmp 55, .const (.int .i64 3)], none⟩,
                ⟨some 57, .iaddr 1 (.tmp 54) (.tmp 56), none⟩,
                ⟨some 58, .load (.tmp 57) 1 false .plain, none⟩,
                ⟨some 59, .faddr (.tmp 5) 4, none⟩,
                ⟨none, .store (.tmp 59) (.tmp 58) 1, none⟩] [4, 5])
              (.seq (.region [
                ⟨some 61, .bin .eql (.tmp 15) (.const (.int .i64 5)), none⟩,
                ⟨some 60, .mov (.tmp 61), none⟩] [0, 4, 5, 6, 15, 60])
              (.cond (.tmp 60)
                (.seq (.region [
                  ⟨some 62, .faddr (.tmp 5) 5, none⟩,
                  ⟨some 63, .load (.tmp 62) 1 false .plain, none⟩,
                  ⟨some 64, .len false (.tmp 63), none⟩,
                  ⟨some 65, .bin .gtr (.tmp 64) (.const (.int .i64 0)), none⟩] [0, 4, 5, 65])
                (.cond (.tmp 65)
                  (.loud [
                    ⟨some 66, .faddr (.tmp 5) 5, none⟩,
                    ⟨some 67, .load (.tmp 66) 1 false .plain, none⟩,
                    ⟨some 68, .mov (.tmp 0), none⟩,
                    ⟨some 69, .faddr (.tmp 5) 5, none⟩,
                    ⟨some 70, .load (.tmp 69) 1 false .plain, none⟩,
                    ⟨some 71, .iaddr 7 (.tmp 70) (.const (.int .i64 0)), none⟩,
                    ⟨some 72, .load (.tmp 71) 7 true .plain, none⟩,
                    ⟨some 73, .call 144 [true, false] [.tmp 68, .tmp 72], none⟩,
                    ⟨some 74, .iaddr 7 (.tmp 67) (.const (.int .i64 0)), none⟩,
                    ⟨none, .store (.tmp 74) (.tmp 73) 7, none⟩] [0, 1, 0, 0, 8, 24, 56, 124, 255, 511] [4, 5])
                  .skip))
                (.seq (.seq (.region [
                  ⟨some 76, .bin .eql (.tmp 15) (.const (.int .i64 6)), none⟩,
                  ⟨some 75, .mov (.tmp 76), none⟩] [0, 4, 5, 6, 15, 75])
                (.cond (.tmp 75)
                  .skip
                  (.region [
                    ⟨some 77, .bin .eql (.tmp 15) (.const (.int .i64 7)), none⟩,
                    ⟨some 75, .mov (.tmp 77), none⟩] [0, 4, 5, 6, 15, 75])))
                (.cond (.tmp 75)
                  (.seq (.region [
                    ⟨some 78, .faddr (.tmp 5) 6, none⟩,
                    ⟨some 79, .load (.tmp 78) 1 false .plain, none⟩,
                    ⟨some 80, .len false (.tmp 79), none⟩,
                    ⟨some 81, .bin .gtr (.tmp 80) (.const (.int .i64 0)), none⟩] [0, 4, 5, 6, 81])
                  (.cond (.tmp 81)
                    (.loud [
                      ⟨some 82, .faddr (.tmp 5) 6, none⟩,
                      ⟨some 83, .load (.tmp 82) 1 false .plain, none⟩,
                      ⟨some 84, .mov (.tmp 6), none⟩,
                      ⟨some 85, .mov (.tmp 0), none⟩,
                      ⟨some 86, .faddr (.tmp 5) 6, none⟩,
                      ⟨some 87, .load (.tmp 86) 1 false .plain, none⟩,
                      ⟨some 88, .mov (.tmp 6), none⟩,
                      ⟨some 89, .iaddr 11 (.tmp 87) (.tmp 88), none⟩,
                      ⟨some 90, .load (.tmp 89) 11 true .plain, none⟩,
                      ⟨some 91, .call 88 [true, false] [.tmp 85, .tmp 90], none⟩,
                      ⟨some 92, .iaddr 11 (.tmp 83) (.tmp 84), none⟩,
                      ⟨none, .store (.tmp 92) (.tmp 91) 11, none⟩] [0, 1, 0, 0, 0, 16, 0, 112, 240, 504, 1023, 2047] [4, 5])
                    .skip))
                  (.seq (.region [
                    ⟨some 94, .bin .eql (.tmp 15) (.const (.int .i64 8)), none⟩,
                    ⟨some 93, .mov (.tmp 94), none⟩] [0, 4, 5, 15, 93])
                  (.cond (.tmp 93)
                    (.loud [
                      ⟨some 95, .faddr (.tmp 5) 7, none⟩,
                      ⟨some 96, .load (.tmp 95) 1 false .plain, none⟩,
                      ⟨some 97, .bslice 1 [.str ⟨#[]⟩] 4 [(0, .const (.str ⟨#[]⟩)), (1, .const (.str ⟨#[118, 111, 108]⟩)), (2, .const (.str ⟨#[122, 122]⟩)), (3, .const (.str ⟨#[42]⟩))], none⟩,
                      ⟨some 98, .mov (.tmp 0), none⟩,
                      ⟨some 99, .call 89 [true, false] [.tmp 98, .const (.int .i64 4)], none⟩,
                      ⟨some 100, .iaddr 1 (.tmp 97) (.tmp 99), none⟩,
                      ⟨some 101, .load (.tmp 100) 1 false .plain, none⟩,
                      ⟨some 102, .bslice 1 [.str ⟨#[]⟩] 2 [(0, .const (.str ⟨#[]⟩)), (1, .const (.str ⟨#[99]⟩))], none⟩,
                      ⟨some 103, .mov (.tmp 0), none⟩,
                      ⟨some 104, .call 89 [true, false] [.tmp 103, .const (.int .i64 2)], none⟩,
                      ⟨some 105, .iaddr 1 (.tmp 102) (.tmp 104), none⟩,
                      ⟨some 106, .load (.tmp 105) 1 false .plain, none⟩,
                      ⟨some 107, .mov (.tmp 0), none⟩,
                      ⟨some 108, .call 89 [true, false] [.tmp 107, .const (.int .i64 3)], none⟩,
                      ⟨some 109, .mov (.tmp 0), none⟩,
                      ⟨some 110, .call 89 [true, false] [.tmp 109, .const (.int .i64 70)], none⟩,
                      ⟨some 111, .build [.str ⟨#[]⟩, .str ⟨#[]⟩, .int .i64 0, .int .i64 0] [(0, 1, .tmp 101), (1, 1, .tmp 106), (2, 1, .tmp 108), (3, 1, .tmp 110)], none⟩,
                      ⟨some 112, .bslice 4 [.str ⟨#[]⟩, .str ⟨#[]⟩, .int .i64 0, .int .i64 0] 1 [(0, .tmp 111)], none⟩,
                      ⟨some 113, .append 4 48 true (.tmp 96) (.tmp 112), none⟩,
                      ⟨some 114, .faddr (.tmp 5) 7, none⟩,
                      ⟨none, .store (.tmp 114) (.tmp 113) 1, none⟩] [0, 1, 0, 0, 8, 28, 60, 0, 0, 280, 920, 1944, 0, 4888, 0, 29464, 65532, 131068, 262143, 524287, 1048575] [4, 5])
                    (.seq (.region [
                      ⟨some 116, .bin .eql (.tmp 15) (.const (.int .i64 9)), none⟩,
                      ⟨some 115, .mov (.tmp 116), none⟩] [0, 4, 5, 15, 115])
                    (.cond (.tmp 115)
                      (.loud [
                        ⟨some 117, .faddr (.tmp 5) 8, none⟩,
                        ⟨some 118, .load (.tmp 117) 1 false .plain, none⟩,
                        ⟨some 119, .bslice 1 [.str ⟨#[]⟩] 3 [(0, .const (.str ⟨#[]⟩)), (1, .const (.str ⟨#[118, 111, 108]⟩)), (2, .const (.str ⟨#[122, 122]⟩))], none⟩,
                        ⟨some 120, .mov (.tmp 0), none⟩,
                        ⟨some 121, .call 89 [true, false] [.tmp 120, .const (.int .i64 3)], none⟩,
                        ⟨some 122, .iaddr 1 (.tmp 119) (.tmp 121), none⟩,
                        ⟨some 123, .load (.tmp 122) 1 false .plain, none⟩,
                        ⟨some 124, .mov (.tmp 0), none⟩,
                        ⟨some 125, .call 89 [true, false] [.tmp 124, .const (.int .i64 3)], none⟩,
                        ⟨some 126, .bin .sub (.tmp 125) (.const (.int .i64 1)), none⟩,
                        ⟨some 127, .mov (.tmp 0), none⟩,
                        ⟨some 128, .call 89 [true, false] [.tmp 127, .const (.int .i64 5)], none⟩,
                        ⟨some 129, .build [.str ⟨#[]⟩, .str ⟨#[]⟩, .int .i64 0, .int .i64 0] [(0, 1, .tmp 123), (1, 1, .const (.str ⟨#[99]⟩)), (2, 1, .tmp 126), (3, 1, .tmp 128)], none⟩,
                        ⟨some 130, .bslice 4 [.str ⟨#[]⟩, .str ⟨#[]⟩, .int .i64 0, .int .i64 0] 1 [(0, .tmp 129)], none⟩,
                        ⟨some 131, .append 4 48 true (.tmp 118) (.tmp 130), none⟩,
                        ⟨some 132, .faddr (.tmp 5) 8, none⟩,
                        ⟨none, .store (.tmp 132) (.tmp 131) 1, none⟩] [0, 1, 0, 0, 8, 28, 60, 0, 152, 408, 0, 1432, 4092, 8188, 16383, 32767, 65535] [4, 5])
                      (.seq (.region [
                        ⟨some 134, .bin .eql (.tmp 15) (.const (.int .i64 10)), none⟩,
                        ⟨some 133, .mov (.tmp 134), none⟩] [0, 4, 5, 133])
                      (.cond (.tmp 133)
                        (.loud [
                          ⟨some 135, .faddr (.tmp 5) 6, none⟩,
                          ⟨some 136, .load (.tmp 135) 1 false .plain, none⟩,
                          ⟨some 137, .build [.str ⟨#[]⟩, .int .i64 0, .str ⟨#[]⟩, .int .i64 0, .int .i64 0, .int .i64 0, .int .i64 0] [(0, 1, .const (.str ⟨#[122, 122]⟩)), (1, 1, .const (.int .i64 1))], none⟩,
                          ⟨some 138, .mov (.tmp 0), none⟩,
                          ⟨some 139, .call 89 [true, false] [.tmp 138, .const (.int .i64 6)], none⟩,
                          ⟨some 140, .bin .add (.const (.int .i64 1)) (.tmp 139), none⟩,
                          ⟨some 141, .build [.str ⟨#[]⟩, .int .i64 0, .str ⟨#[]⟩, .int .i64 0, .int .i64 0, .int .i64 0, .int .i64 0, .int .i64 0, .int .i64 0, .int .i64 0, .int .i64 0] [(0, 7, .tmp 137), (7, 1, .tmp 140)], none⟩,
                          ⟨some 142, .bslice 11 [.str ⟨#[]⟩, .int .i64 0, .str ⟨#[]⟩, .int .i64 0, .int .i64 0, .int .i64 0, .int .i64 0, .int .i64 0, .int .i64 0, .int .i64 0, .int .i64 0] 1 [(0, .tmp 141)], none⟩,
                          ⟨some 143, .append 11 104 true (.tmp 136) (.tmp 142), none⟩,
                          ⟨some 144, .faddr (.tmp 5) 6, none⟩,
                          ⟨none, .store (.tmp 144) (.tmp 143) 1, none⟩] [0, 1, 0, 0, 8, 24, 60, 124, 255, 511, 1023] [4, 5])
                        (.region [
                          ⟨some 16, .bslice 4 [.str ⟨#[]⟩, .str ⟨#[]⟩, .int .i64 0, .int .i64 0] 0 [], none⟩,
                          ⟨some 17, .faddr (.tmp 5) 7, none⟩,
                          ⟨some 18, .load (.tmp 17) 1 false .plain, none⟩,
                          ⟨some 19, .append 4 48 true (.tmp 16) (.tmp 18), none⟩,
                          ⟨some 20, .faddr (.tmp 5) 8, none⟩,
                          ⟨none, .store (.tmp 20) (.tmp 19) 1, none⟩] [4, 5])))))))))))))))))))))))
  (.seq (.region [
    ⟨some 145, .load (.tmp 5) 9 true .plain, none⟩,
    ⟨none, .store (.tmp 4) (.tmp 145) 9, none⟩] [4])
  .ret)))))⟩
-- spec.l4Draw
def c156b0 : CCode := (.seq (.seq (.region [
    ⟨some 39, .mov (.tmp 4), none⟩,
    ⟨some 40, .faddr (.tmp 3) 6, none⟩,
    ⟨some 41, .load (.tmp 40) 1 false .plain, none⟩,
    ⟨some 42, .len false (.tmp 41), none⟩,
    ⟨some 43, .bin .lss (.tmp 39) (.tmp 42), none⟩] [0, 2, 3, 4, 43])
  (.cond (.tmp 43)
    .skip
    (.exit 0)))
  (.seq (.block 1
    (.seq (.loud [
      ⟨some 47, .faddr (.tmp 3) 5, none⟩,
      ⟨some 48, .load (.tmp 47) 1 false .plain, none⟩,
      ⟨some 49, .faddr (.tmp 3) 6, none⟩,
      ⟨some 50, .load (.tmp 49) 1 false .plain, none⟩,
      ⟨some 51, .mov (.tmp 4), none⟩,
      ⟨some 52, .iaddr 11 (.tmp 50) (.tmp 51), none⟩,
      ⟨some 53, .faddr (.tmp 52) 0, none⟩,
      ⟨some 54, .faddr (.tmp 53) 0, none⟩,
      ⟨some 55, .load (.tmp 54) 1 false .plain, none⟩,
      ⟨some 56, .call 161 [false, false] [.tmp 48, .tmp 55], none⟩,
      ⟨some 46, .mov (.tmp 56), none⟩,
      ⟨some 57, .ext (.tmp 46) 0, none⟩,
      ⟨some 58, .ext (.tmp 46) 1, none⟩,
      ⟨some 5, .alloc [.str ⟨#[]⟩, .int .i64 0, .str ⟨#[]⟩, .int .i64 0, .int .i64 0, .int .i64 0, .int .i64 0], none⟩,
      ⟨none, .store (.tmp 5) (.tmp 57) 7, none⟩,
      ⟨some 6, .mov (.tmp 58), none⟩] [0, 1, 0, 4, 0, 28, 60, 124, 252, 511, 1023, 2047, 2047, 0, 12287, 32767] [0, 2, 3, 4, 5, 6])
    (.seq (.region [
      ⟨some 59, .mov (.tmp 6), none⟩,
      ⟨some 60, .mov (.tmp 59), none⟩,
      ⟨some 61, .mov (.tmp 0), some (60, true)⟩,
      ⟨some 62, .call 89 [true, false] [.tmp 61, .const (.int .i64 4)], some (60, true)⟩,
      ⟨some 63, .bin .gtr (.tmp 62) (.const (.int .i64 0)), some (60, true)⟩,
      ⟨some 64, .pick (.tmp 60) (.tmp 63) (.const (.bool false)), none⟩] [0, 2, 3, 4, 5, 64])
    (.cond (.tmp 64)
      (.seq (.region [
        ⟨some 65, .faddr (.tmp 3) 6, none⟩,
        ⟨some 66, .load (.tmp 65) 1 false .plain, none⟩,
        ⟨some 67, .mov (.tmp 4), none⟩,
        ⟨some 68, .load (.tmp 5) 7 true .plain, none⟩,
        ⟨some 69, .iaddr 11 (.tmp 66) (.tmp 67), none⟩,
        ⟨some 70, .faddr (.tmp 69) 0, none⟩,
        ⟨none, .store (.tmp 70) (.tmp 68) 7, none⟩] [0, 2, 3, 4, 5])
      (.seq (.seq (.region [
        ⟨some 71, .faddr (.tmp 5) 2, none⟩,
        ⟨some 72, .load (.tmp 71) 1 false .plain, none⟩,
        ⟨some 73, .bin .eql (.tmp 72) (.const (.str ⟨#[]⟩)), none⟩] [0, 2, 3, 4, 73])
      (.cond (.tmp 73)
        (.region [
          ⟨some 74, .faddr (.tmp 3) 6, none⟩,
          ⟨some 75, .load (.tmp 74) 1 false .plain, none⟩,
          ⟨some 76, .mov (.tmp 4), none⟩,
          ⟨some 77, .iaddr 11 (.tmp 75) (.tmp 76), none⟩,
          ⟨some 78, .faddr (.tmp 77) 10, none⟩,
          ⟨none, .store (.tmp 78) (.const (.int .i64 0)) 1, none⟩] [0, 2, 3, 4])
        .skip))
      (.seq (.quiet [
        ⟨some 79, .faddr (.tmp 3) 6, none⟩,
        ⟨some 80, .load (.tmp 79) 1 false .plain, none⟩,
        ⟨some 81, .mov (.tmp 4), none⟩,
        ⟨some 82, .iaddr 11 (.tmp 80) (.tmp 81), none⟩,
        ⟨some 83, .load (.tmp 82) 11 true .plain, none⟩,
        ⟨some 84, .faddr (.tmp 3) 2, none⟩,
        ⟨some 85, .load (.tmp 84) 1 false .plain, none⟩,
        ⟨some 86, .call 84 [false, false] [.tmp 83, .tmp 85], none⟩,
        ⟨some 87, .un .not (.tmp 86), none⟩] [0, 2, 3, 4, 87])
      (.cond (.tmp 87)
        (.seq (.region [
          ⟨some 88, .faddr (.tmp 3) 6, none⟩,
          ⟨some 89, .load (.tmp 88) 1 false .plain, none⟩,
          ⟨some 90, .mov (.tmp 4), none⟩,
          ⟨some 91, .iaddr 11 (.tmp 89) (.tmp 90), none⟩,
          ⟨some 92, .faddr (.tmp 91) 7, none⟩,
          ⟨none, .store (.tmp 92) (.const (.int .i64 2)) 1, none⟩] [0, 2, 3, 4])
        (.region [
          ⟨some 93, .faddr (.tmp 3) 6, none⟩,
          ⟨some 94, .load (.tmp 93) 1 false .plain, none⟩,
          ⟨some 95, .mov (.tmp 4), none⟩,
          ⟨some 96, .iaddr 11 (.tmp 94) (.tmp 95), none⟩,
          ⟨some 97, .faddr (.tmp 96) 8, none⟩,
          ⟨none, .store (.tmp 97) (.const (.int .i64 0)) 1, none⟩] [0, 2, 3, 4]))
        .skip))))
      .skip))))
  (.region [
    ⟨some 44, .mov (.tmp 4), none⟩,
    ⟨some 45, .bin .add (.tmp 44) (.const (.int .i64 1)), none⟩,
    ⟨some 4, .mov (.tmp 45), none⟩] [0, 2, 3, 4])))
def c156b1 : CCode := (.seq (.seq (.region [
    ⟨some 116, .mov (.tmp 9), none⟩,
    ⟨some 117, .faddr (.tmp 3) 6, none⟩,
    ⟨some 118, .load (.tmp 117) 1 false .plain, none⟩,
    ⟨some 119, .len false (.tmp 118), none⟩,
    ⟨some 120, .bin .lss (.tmp 116) (.tmp 119), none⟩] [0, 2, 3, 7, 8, 9, 120])
  (.cond (.tmp 120)
    .skip
    (.exit 4)))
  (.seq (.block 5
    (.seq (.loud [
      ⟨some 123, .faddr (.tmp 3) 6, none⟩,
      ⟨some 124, .load (.tmp 123) 1 false .plain, none⟩,
      ⟨some 125, .mov (.tmp 9), none⟩,
      ⟨some 126, .iaddr 11 (.tmp 124) (.tmp 125), none⟩,
      ⟨some 127, .faddr (.tmp 126) 0, none⟩,
      ⟨some 128, .faddr (.tmp 127) 2, none⟩,
      ⟨some 129, .load (.tmp 128) 1 false .plain, none⟩,
      ⟨some 130, .faddr (.tmp 8) 0, none⟩,
      ⟨some 131, .load (.tmp 130) 1 false .plain, none⟩,
      ⟨some 132, .bin .eql (.tmp 129) (.tmp 131), none⟩,
      ⟨some 133, .mov (.tmp 132), none⟩,
      ⟨some 134, .mov (.tmp 0), some (133, true)⟩,
      ⟨some 135, .call 89 [true, false] [.tmp 134, .const (.int .i64 4)], some (133, true)⟩,
      ⟨some 136, .bin .gtr (.tmp 135) (.const (.int .i64 0)), some (133, true)⟩,
      ⟨some 137, .pick (.tmp 133) (.tmp 136) (.const (.bool false)), none⟩] [0, 1, 0, 7, 15, 31, 63, 0, 128, 511, 1023, 2047, 4095, 8191, 16383] [0, 2, 3, 7, 8, 9, 137])
    (.cond (.tmp 137)
      (.region [
        ⟨some 138, .faddr (.tmp 3) 6, none⟩,
        ⟨some 139, .load (.tmp 138) 1 false .plain, none⟩,
        ⟨some 140, .mov (.tmp 9), none⟩,
        ⟨some 141, .iaddr 11 (.tmp 139) (.tmp 140), none⟩,
        ⟨some 142, .faddr (.tmp 141) 0, none⟩,
        ⟨some 143, .faddr (.tmp 142) 0, none⟩,
        ⟨some 144, .load (.tmp 143) 1 false .plain, none⟩,
        ⟨some 145, .faddr (.tmp 8) 1, none⟩,
        ⟨none, .store (.tmp 145) (.tmp 144) 1, none⟩] [0, 2, 3, 7, 8, 9])
      .skip)))
  (.region [
    ⟨some 121, .mov (.tmp 9), none⟩,
    ⟨some 122, .bin .add (.tmp 121) (.const (.int .i64 1)), none⟩,
    ⟨some 9, .mov (.tmp 122), none⟩] [0, 2, 3, 7, 8, 9])))
def c156b2 : CCode := (.seq (.seq (.region [
    ⟨some 98, .mov (.tmp 7), none⟩,
    ⟨some 99, .bin .lss (.tmp 98) (.const (.int .i64 3)), none⟩] [0, 2, 3, 7, 99])
  (.cond (.tmp 99)
    .skip
    (.exit 2)))
  (.seq (.block 3
    (.seq (.loud [
      ⟨some 102, .bslice 1 [.str ⟨#[]⟩] 3 [(0, .const (.str ⟨#[105, 112]⟩)), (1, .const (.str ⟨#[118, 111, 108]⟩)), (2, .const (.str ⟨#[118, 111, 108, 50]⟩))], none⟩,
      ⟨some 103, .mov (.tmp 7), none⟩,
      ⟨some 104, .iaddr 1 (.tmp 102) (.tmp 103), none⟩,
      ⟨some 105, .load (.tmp 104) 1 false .plain, none⟩,
      ⟨some 106, .mov (.tmp 0), none⟩,
      ⟨some 107, .call 89 [true, false] [.tmp 106, .const (.int .i64 4)], none⟩,
      ⟨some 108, .call 140 [false] [.tmp 107], none⟩,
      ⟨some 109, .bin .add (.const (.str ⟨#[99]⟩)) (.tmp 108), none⟩,
      ⟨some 110, .faddr (.tmp 3) 2, none⟩,
      ⟨some 111, .load (.tmp 110) 1 false .plain, none⟩,
      ⟨some 112, .mov (.tmp 0), none⟩,
      ⟨some 113, .call 89 [true, false] [.tmp 112, .const (.int .i64 12)], none⟩,
      ⟨some 114, .bin .sub (.tmp 111) (.tmp 113), none⟩,
      ⟨some 115, .build [.str ⟨#[]⟩, .str ⟨#[]⟩, .int .i64 0, .int .i64 0] [(0, 1, .tmp 105), (1, 1, .tmp 109), (3, 1, .tmp 114)], none⟩,
      ⟨some 8, .alloc [.str ⟨#[]⟩, .str ⟨#[]⟩, .int .i64 0, .int .i64 0], none⟩,
      ⟨none, .store (.tmp 8) (.tmp 115) 4, none⟩] [0, 0, 3, 7, 0, 16, 48, 112, 0, 256, 0, 1136, 3952, 8191, 0, 32767] [0, 2, 3, 7, 8])
    (.seq (.seq (.region [
      ⟨some 9, .mov (.const (.int .i64 0)), none⟩] [0, 2, 3, 7, 8, 9])
    (.block 4
      (.loop [0, 2, 3, 7, 8, 9] c156b1)))
    (.seq (.seq (.region [
      ⟨some 146, .faddr (.tmp 8) 3, none⟩,
      ⟨some 147, .load (.tmp 146) 1 false .plain, none⟩,
      ⟨some 148, .bin .lss (.tmp 147) (.const (.int .i64 0)), none⟩] [0, 2, 3, 7, 8, 148])
    (.cond (.tmp 148)
      (.region [
        ⟨some 149, .faddr (.tmp 8) 3, none⟩,
        ⟨none, .store (.tmp 149) (.const (.int .i64 0)) 1, none⟩] [0, 2, 3, 7, 8])
      .skip))
    (.seq (.loud [
      ⟨some 150, .faddr (.tmp 8) 3, none⟩,
      ⟨some 151, .load (.tmp 150) 1 false .plain, none⟩,
      ⟨some 152, .mov (.tmp 0), none⟩,
      ⟨some 153, .call 89 [true, false] [.tmp 152, .const (.int .i64 6)], none⟩,
      ⟨some 154, .bin .sub (.tmp 151) (.tmp 153), none⟩,
      ⟨some 155, .faddr (.tmp 8) 2, none⟩,
      ⟨none, .store (.tmp 155) (.tmp 154) 1, none⟩] [0, 1, 0, 4, 15, 31, 63] [0, 2, 3, 7, 8])
    (.seq (.seq (.region [
      ⟨some 156, .faddr (.tmp 8) 2, none⟩,
      ⟨some 157, .load (.tmp 156) 1 false .plain, none⟩,
      ⟨some 158, .bin .lss (.tmp 157) (.const (.int .i64 0)), none⟩] [0, 2, 3, 7, 8, 158])
    (.cond (.tmp 158)
      (.region [
        ⟨some 159, .faddr (.tmp 8) 2, none⟩,
        ⟨none, .store (.tmp 159) (.const (.int .i64 0)) 1, none⟩] [0, 2, 3, 7, 8])
      .skip))
    (.seq (.region [
      ⟨some 160, .mov (.tmp 0), none⟩,
      ⟨some 161, .call 89 [true, false] [.tmp 160, .const (.int .i64 4)], none⟩] [0, 2, 3, 7, 8, 161])
    (.block 6
      (.seq (.seq (.region [
        ⟨some 163, .bin .eql (.tmp 161) (.const (.int .i64 0)), none⟩,
        ⟨some 162, .mov (.tmp 163), none⟩] [0, 2, 3, 7, 8, 161, 162])
      (.cond (.tmp 162)
        .skip
        (.region [
          ⟨some 164, .bin .eql (.tmp 161) (.const (.int .i64 1)), none⟩,
          ⟨some 162, .mov (.tmp 164), none⟩] [0, 2, 3, 7, 8, 161, 162])))
      (.cond (.tmp 162)
        (.region [
          ⟨some 165, .faddr (.tmp 3) 7, none⟩,
          ⟨some 166, .load (.tmp 165) 1 false .plain, none⟩,
          ⟨some 167, .load (.tmp 8) 4 true .plain, none⟩,
          ⟨some 168, .bslice 4 [.str ⟨#[]⟩, .str ⟨#[]⟩, .int .i64 0, .int .i64 0] 1 [(0, .tmp 167)], none⟩,
          ⟨some 169, .append 4 48 true (.tmp 166) (.tmp 168), none⟩,
          ⟨some 170, .faddr (.tmp 3) 7, none⟩,
          ⟨none, .store (.tmp 170) (.tmp 169) 1, none⟩] [0, 2, 3, 7])
        (.seq (.region [
          ⟨some 172, .bin .eql (.tmp 161) (.const (.int .i64 2)), none⟩,
          ⟨some 171, .mov (.tmp 172), none⟩] [0, 2, 3, 7, 8, 171])
        (.cond (.tmp 171)
          (.region [
            ⟨some 173, .faddr (.tmp 3) 8, none⟩,
            ⟨some 174, .load (.tmp 173) 1 false .plain, none⟩,
            ⟨some 175, .load (.tmp 8) 4 true .plain, none⟩,
            ⟨some 176, .bslice 4 [.str ⟨#[]⟩, .str ⟨#[]⟩, .int .i64 0, .int .i64 0] 1 [(0, .tmp 175)], none⟩,
            ⟨some 177, .append 4 48 true (.tmp 174) (.tmp 176), none⟩,
            ⟨some 178, .faddr (.tmp 3) 8, none⟩,
            ⟨none, .store (.tmp 178) (.tmp 177) 1, none⟩] [0, 2, 3, 7])
          .skip))))))))))))
  (.region [
    ⟨some 100, .mov (.tmp 7), none⟩,
    ⟨some 101, .bin .add (.tmp 100) (.const (.int .i64 1)), none⟩,
    ⟨some 7, .mov (.tmp 101), none⟩] [0, 2, 3, 7])))
def c156 : CFn := ⟨180, [.cell 2 9 true],
  (.seq (.region [
    ⟨some 2, .alloc [.str ⟨#[]⟩, .bool false, .int .i64 0, .bool false, .int .i64 0, .sl .own 7 [], .sl .own 11 [], .sl .own 4 [], .sl .own 4 []], none⟩] [0, 2])
  (.seq (.region [
    ⟨some 10, .mov (.tmp 0), none⟩,
    ⟨some 11, .call 89 [true, false] [.tmp 10, .const (.int .i64 6)], none⟩,
    ⟨some 12, .bin .gtr (.tmp 11) (.const (.int .i64 0)), none⟩,
    ⟨some 13, .mov (.tmp 0), none⟩,
    ⟨some 14, .call 89 [true, false] [.tmp 13, .const (.int .i64 60)], none⟩,
    ⟨some 15, .build [.str ⟨#[]⟩, .bool false, .int .i64 0, .bool false, .int .i64 0, .sl .own 7 [], .sl .own 11 [], .sl .own 4 [], .sl .own 4 []] [(0, 1, .const (.str ⟨#[97]⟩)), (1, 1, .tmp 12), (2, 1, .tmp 14)], none⟩,
    ⟨some 3, .alloc [.str ⟨#[]⟩, .bool false, .int .i64 0, .bool false, .int .i64 0, .sl .own 7 [], .sl .own 11 [], .sl .own 4 [], .sl .own 4 []], none⟩,
    ⟨none, .store (.tmp 3) (.tmp 15) 9, none⟩] [0, 2, 3])
  (.seq (.region [
    ⟨some 16, .mov (.tmp 0), none⟩,
    ⟨some 17, .faddr (.tmp 3) 2, none⟩,
    ⟨some 18, .load (.tmp 17) 1 false .plain, none⟩,
    ⟨some 19, .call 162 [true, false, false] [.tmp 16, .tmp 18, .const (.bool true)], none⟩,
    ⟨some 20, .faddr (.tmp 3) 6, none⟩,
    ⟨none, .store (.tmp 20) (.tmp 19) 1, none⟩] [0, 2, 3])
  (.seq (.seq (.region [
    ⟨some 21, .faddr (.tmp 3) 1, none⟩,
    ⟨some 22, .load (.tmp 21) 1 false .plain, none⟩,
    ⟨some 23, .un .not (.tmp 22), none⟩] [0, 2, 3, 23])
  (.cond (.tmp 23)
    (.seq (.loud [
      ⟨some 24, .load (.tmp 3) 9 true .plain, none⟩,
      ⟨some 25, .mov (.tmp 0), none⟩,
      ⟨some 26, .call 89 [true, false] [.tmp 25, .const (.int .i64 3)], none⟩,
      ⟨some 27, .bin .eql (.tmp 26) (.const (.int .i64 0)), none⟩,
      ⟨some 28, .call 32 [false, false] [.tmp 24, .tmp 27], none⟩,
      ⟨none, .store (.tmp 2) (.tmp 28) 9, none⟩] [0, 0, 2, 6, 15, 31] [2])
    .ret)
    .skip))
  (.seq (.seq (.region [
    ⟨some 29, .mov (.tmp 0), none⟩,
    ⟨some 30, .call 89 [true, false] [.tmp 29, .const (.int .i64 6)], none⟩,
    ⟨some 31, .bin .gtr (.tmp 30) (.const (.int .i64 0)), none⟩] [0, 2, 3, 31])
  (.cond (.tmp 31)
    (.seq (.region [
      ⟨some 32, .faddr (.tmp 3) 3, none⟩,
      ⟨none, .store (.tmp 32) (.const (.bool true)) 1, none⟩] [0, 2, 3])
    (.seq (.region [
      ⟨some 33, .mov (.tmp 0), none⟩,
      ⟨some 34, .call 89 [true, false] [.tmp 33, .const (.int .i64 4)], none⟩,
      ⟨some 35, .faddr (.tmp 3) 4, none⟩,
      ⟨none, .store (.tmp 35) (.tmp 34) 1, none⟩] [0, 2, 3])
    (.seq (.region [
      ⟨some 36, .mov (.tmp 0), none⟩,
      ⟨some 37, .call 145 [true] [.tmp 36], none⟩,
      ⟨some 38, .faddr (.tmp 3) 5, none⟩,
      ⟨none, .store (.tmp 38) (.tmp 37) 1, none⟩] [0, 2, 3])
    (.seq (.region [
      ⟨some 4, .mov (.const (.int .i64 0)), none⟩] [0, 2, 3, 4])
    (.block 0
      (.loop [0, 2, 3, 4] c156b0))))))
    .skip))
  (.seq (.seq (.region [
    ⟨some 7, .mov (.const (.int .i64 0)), none⟩] [0, 2, 3, 7])
  (.block 2
    (.loop [0, 2, 3, 7] c156b2)))
  (.seq (.region [
    ⟨some 179, .load (.tmp 3) 9 true .plain, none⟩,
    ⟨none, .store (.tmp 2) (.tmp 179) 9, none⟩] [2])
  .ret)))))))⟩
-- spec.l1Many
def c160b0 : CCode := (.seq (.seq (.region [
    ⟨some 6, .mov (.tmp 1), none⟩,
    ⟨some 7, .bin .gtr (.tmp 6) (.const (.int .i64 0)), none⟩] [0, 1, 5, 7])
  (.cond (.tmp 7)
    .skip
    (.exit 0)))
  (.block 1
    (.seq (.seq (.region [
      ⟨some 8, .mov (.tmp 1), none⟩,
      ⟨some 9, .bin .rem (.tmp 8) (.const (.int .i64 2)), none⟩,
      ⟨some 10, .bin .eql (.tmp 9) (.const (.int .i64 1)), none⟩] [0, 1, 5, 10])
    (.cond (.tmp 10)
      (.region [
        ⟨some 11, .mov (.tmp 5), none⟩,
        ⟨some 12, .mov (.tmp 0), none⟩,
        ⟨some 13, .bin .add (.tmp 11) (.tmp 12), none⟩,
        ⟨some 5, .mov (.tmp 13), none⟩] [0, 1, 5])
      .skip))
    (.seq (.region [
      ⟨some 14, .mov (.tmp 0), none⟩,
      ⟨some 15, .mov (.tmp 0), none⟩,
      ⟨some 16, .bin .add (.tmp 14) (.tmp 15), none⟩,
      ⟨some 0, .mov (.tmp 16), none⟩] [0, 1, 5])
    (.region [
      ⟨some 17, .mov (.tmp 1), none⟩,
      ⟨some 18, .bin .quo (.tmp 17) (.const (.int .i64 2)), none⟩,
      ⟨some 1, .mov (.tmp 18), none⟩] [0, 1, 5])))))
def c160 : CFn := ⟨20, [.tmp 4],
  (.seq (.region [
    ⟨some 4, .mov (.const (.str ⟨#[]⟩)), none⟩] [0, 1])
  (.seq (.region [
    ⟨some 5, .mov (.const (.str ⟨#[]⟩)), none⟩] [0, 1, 5])
  (.seq (.block 0
    (.loop [0, 1, 5] c160b0))
  (.seq (.region [
    ⟨some 19, .mov (.tmp 5), none⟩,
    ⟨some 4, .mov (.tmp 19), none⟩] [4])
  .ret))))⟩
-- spec.l4Want
def c161b0 : CCode := (.seq (.seq (.region [
    ⟨some 7, .mov (.tmp 6), none⟩,
    ⟨some 8, .mov (.tmp 0), none⟩,
    ⟨some 9, .len false (.tmp 8), none⟩,
    ⟨some 10, .bin .lss (.tmp 7) (.tmp 9), none⟩] [0, 1, 4, 6, 10])
  (.cond (.tmp 10)
    .skip
    (.exit 0)))
  (.seq (.block 1
    (.seq (.region [
      ⟨some 13, .mov (.tmp 0), none⟩,
      ⟨some 14, .mov (.tmp 6), none⟩,
      ⟨some 15, .iaddr 7 (.tmp 13) (.tmp 14), none⟩,
      ⟨some 16, .faddr (.tmp 15) 0, none⟩,
      ⟨some 17, .load (.tmp 16) 1 false .plain, none⟩,
      ⟨some 18, .mov (.tmp 1), none⟩,
      ⟨some 19, .bin .eql (.tmp 17) (.tmp 18), none⟩] [0, 1, 4, 6, 19])
    (.cond (.tmp 19)
      (.seq (.region [
        ⟨some 20, .mov (.tmp 0), none⟩,
        ⟨some 21, .mov (.tmp 6), none⟩,
        ⟨some 22, .iaddr 7 (.tmp 20) (.tmp 21), none⟩,
        ⟨some 23, .load (.tmp 22) 7 true .plain, none⟩,
        ⟨none, .store (.tmp 4) (.tmp 23) 7, none⟩,
        ⟨some 5, .mov (.const (.bool true)), none⟩] [4, 5])
      .ret)
      .skip)))
  (.region [
    ⟨some 11, .mov (.tmp 6), none⟩,
    ⟨some 12, .bin .add (.tmp 11) (.const (.int .i64 1)), none⟩,
    ⟨some 6, .mov (.tmp 12), none⟩] [0, 1, 4, 6])))
def c161 : CFn := ⟨25, [.cell 4 7 true, .tmp 5],
  (.seq (.region [
    ⟨some 4, .alloc [.str ⟨#[]⟩, .int .i64 0, .str ⟨#[]⟩, .int .i64 0, .int .i64 0, .int .i64 0, .int .i64 0], none⟩,
    ⟨some 5, .mov (.const (.bool false)), none⟩] [0, 1, 4])
  (.seq (.seq (.region [
    ⟨some 6, .mov (.const (.int .i64 0)), none⟩] [0, 1, 4, 6])
  (.block 0
    (.loop [0, 1, 4, 6] c161b0)))
  (.seq (.region [
    ⟨some 24, .build [.str ⟨#[]⟩, .int .i64 0, .str ⟨#[]⟩, .int .i64 0, .int .i64 0, .int .i64 0, .int .i64 0] [], none⟩,
    ⟨none, .store (.tmp 4) (.tmp 24) 7, none⟩,
    ⟨some 5, .mov (.const (.bool false)), none⟩] [4, 5])
  .ret)))⟩
-- spec.l2Runs
def c162b0 : CCode := (.seq (.seq (.region [
    ⟨some 11, .mov (.tmp 8), none⟩,
    ⟨some 12, .bin .lss (.tmp 11) (.const (.int .i64 4)), none⟩] [0, 1, 2, 7, 8, 12])
  (.cond (.tmp 12)
    .skip
    (.exit 0)))
  (.seq (.block 1
    (.seq (.region [
      ⟨some 15, .mov (.tmp 0), none⟩,
      ⟨some 16, .call 89 [true, false] [.tmp 15, .const (.int .i64 2)], none⟩,
      ⟨some 17, .bin .eql (.tmp 16) (.const (.int .i64 0)), none⟩] [0, 1, 2, 7, 8, 17])
    (.cond (.tmp 17)
      (.seq (.region [
        ⟨some 18, .mov (.tmp 0), none⟩,
        ⟨some 19, .mov (.tmp 8), none⟩,
        ⟨some 20, .call 140 [false] [.tmp 19], none⟩,
        ⟨some 21, .bin .add (.const (.str ⟨#[99]⟩)) (.tmp 20), none⟩,
        ⟨some 22, .mov (.tmp 1), none⟩,
        ⟨some 23, .call 90 [true, false, false] [.tmp 18, .tmp 21, .tmp 22], none⟩,
        ⟨some 9, .alloc [.str ⟨#[]⟩, .int .i64 0, .str ⟨#[]⟩, .int .i64 0, .int .i64 0, .int .i64 0, .int .i64 0, .int .i64 0, .int .i64 0, .int .i64 0, .int .i64 0], none⟩,
        ⟨none, .store (.tmp 9) (.tmp 23) 11, none⟩] [0, 1, 2, 7, 8, 9])
      (.seq (.seq (.region [
        ⟨some 24, .mov (.tmp 2), none⟩,
        ⟨some 25, .mov (.tmp 24), none⟩,
        ⟨some 26, .load (.tmp 9) 11 true .plain, some (25, true)⟩,
        ⟨some 27, .mov (.tmp 1), some (25, true)⟩,
        ⟨some 28, .call 84 [false, false] [.tmp 26, .tmp 27], some (25, true)⟩,
        ⟨some 29, .un .not (.tmp 28), some (25, true)⟩,
        ⟨some 30, .pick (.tmp 25) (.tmp 29) (.const (.bool false)), none⟩] [0, 1, 2, 7, 8, 9, 30])
      (.cond (.tmp 30)
        (.seq (.region [
          ⟨some 31, .faddr (.tmp 9) 7, none⟩,
          ⟨none, .store (.tmp 31) (.const (.int .i64 2)) 1, none⟩] [0, 1, 2, 7, 8, 9])
        (.region [
          ⟨some 32, .faddr (.tmp 9) 8, none⟩,
          ⟨none, .store (.tmp 32) (.const (.int .i64 0)) 1, none⟩] [0, 1, 2, 7, 8, 9]))
        .skip))
      (.region [
        ⟨some 33, .mov (.tmp 7), none⟩,
        ⟨some 34, .load (.tmp 9) 11 true .plain, none⟩,
        ⟨some 35, .bslice 11 [.str ⟨#[]⟩, .int .i64 0, .str ⟨#[]⟩, .int .i64 0, .int .i64 0, .int .i64 0, .int .i64 0, .int .i64 0, .int .i64 0, .int .i64 0, .int .i64 0] 1 [(0, .tmp 34)], none⟩,
        ⟨some 36, .append 11 104 true (.tmp 33) (.tmp 35), none⟩,
        ⟨some 7, .mov (.tmp 36), none⟩] [0, 1, 2, 7, 8])))
      .skip)))
  (.region [
    ⟨some 13, .mov (.tmp 8), none⟩,
    ⟨some 14, .bin .add (.tmp 13) (.const (.int .i64 1)), none⟩,
    ⟨some 8, .mov (.tmp 14), none⟩] [0, 1, 2, 7, 8])))
def c162 : CFn := ⟨38, [.tmp 6],
  (.seq (.region [
    ⟨some 6, .mov (.const (.sl .own 11 [])), none⟩] [0, 1, 2])
  (.seq (.region [
    ⟨some 10, .bslice 11 [.str ⟨#[]⟩, .int .i64 0, .str ⟨#[]⟩, .int .i64 0, .int .i64 0, .int .i64 0, .int .i64 0, .int .i64 0, .int .i64 0, .int .i64 0, .int .i64 0] 0 [], none⟩,
    ⟨some 7, .mov (.tmp 10), none⟩] [0, 1, 2, 7])
  (.seq (.seq (.region [
    ⟨some 8, .mov (.const (.int .i64 0)), none⟩] [0, 1, 2, 7, 8])
  (.block 0
    (.loop [0, 1, 2, 7, 8] c162b0)))
  (.seq (.region [
    ⟨some 37, .mov (.tmp 7), none⟩,
    ⟨some 6, .mov (.tmp 37), none⟩] [6])
  .ret))))⟩
-- laws.FnFalls
def c171b0 : CCode := (.seq (.seq (.region [
    ⟨some 71, .mov (.tmp 8), none⟩,
    ⟨some 72, .faddr (.tmp 3) 6, none⟩,
    ⟨some 73, .load (.tmp 72) 1 false .plain, none⟩,
    ⟨some 74, .len false (.tmp 73), none⟩,
    ⟨some 75, .bin .lss (.tmp 71) (.tmp 74), none⟩,
    ⟨some 76, .mov (.tmp 75), none⟩,
    ⟨some 77, .mov (.tmp 4), some (76, true)⟩,
    ⟨some 78, .un .not (.tmp 77), some (76, true)⟩,
    ⟨some 79, .pick (.tmp 76) (.tmp 78) (.const (.bool false)), none⟩] [3, 4, 5, 7, 8, 79])
  (.cond (.tmp 79)
    .skip
    (.exit 0)))
  (.seq (.block 1
    (.seq (.region [
      ⟨some 82, .faddr (.tmp 3) 6, none⟩,
      ⟨some 83, .load (.tmp 82) 1 false .plain, none⟩,
      ⟨some 84, .mov (.tmp 8), none⟩,
      ⟨some 85, .iaddr 11 (.tmp 83) (.tmp 84), none⟩,
      ⟨some 86, .load (.tmp 85) 11 true .plain, none⟩,
      ⟨some 87, .call 2 [false] [.tmp 86], none⟩] [3, 4, 5, 7, 8, 87])
    (.cond (.tmp 87)
      (.region [
        ⟨some 88, .mov (.tmp 7), none⟩,
        ⟨some 89, .faddr (.tmp 3) 6, none⟩,
        ⟨some 90, .load (.tmp 89) 1 false .plain, none⟩,
        ⟨some 91, .mov (.tmp 8), none⟩,
        ⟨some 92, .iaddr 11 (.tmp 90) (.tmp 91), none⟩,
        ⟨some 93, .load (.tmp 92) 11 true .plain, none⟩,
        ⟨some 94, .bslice 11 [.str ⟨#[]⟩, .int .i64 0, .str ⟨#[]⟩, .int .i64 0, .int .i64 0, .int .i64 0, .int .i64 0, .int .i64 0, .int .i64 0, .int .i64 0, .int .i64 0] 1 [(0, .tmp 93)], none⟩,
        ⟨some 95, .append 11 104 true (.tmp 88) (.tmp 94), none⟩,
        ⟨some 7, .mov (.tmp 95), none⟩] [3, 4, 5, 7, 8])
      .skip)))
  (.region [
    ⟨some 80, .mov (.tmp 8), none⟩,
    ⟨some 81, .bin .add (.tmp 80) (.const (.int .i64 1)), none⟩,
    ⟨some 8, .mov (.tmp 81), none⟩] [3, 4, 5, 7, 8])))
def c171b1 : CCode := (.seq (.seq (.region [
    ⟨some 97, .mov (.tmp 10), none⟩,
    ⟨some 98, .faddr (.tmp 5) 6, none⟩,
    ⟨some 99, .load (.tmp 98) 1 false .plain, none⟩,
    ⟨some 100, .len false (.tmp 99), none⟩,
    ⟨some 101, .bin .lss (.tmp 97) (.tmp 100), none⟩] [5, 7, 9, 10, 101])
  (.cond (.tmp 101)
    .skip
    (.exit 2)))
  (.seq (.block 3
    (.seq (.region [
      ⟨some 104, .faddr (.tmp 5) 6, none⟩,
      ⟨some 105, .load (.tmp 104) 1 false .plain, none⟩,
      ⟨some 106, .mov (.tmp 10), none⟩,
      ⟨some 107, .iaddr 11 (.tmp 105) (.tmp 106), none⟩,
      ⟨some 108, .load (.tmp 107) 11 true .plain, none⟩,
      ⟨some 109, .call 1 [false] [.tmp 108], none⟩] [5, 7, 9, 10, 109])
    (.cond (.tmp 109)
      (.region [
        ⟨some 110, .mov (.tmp 9), none⟩,
        ⟨some 111, .faddr (.tmp 5) 6, none⟩,
        ⟨some 112, .load (.tmp 111) 1 false .plain, none⟩,
        ⟨some 113, .mov (.tmp 10), none⟩,
        ⟨some 114, .iaddr 11 (.tmp 112) (.tmp 113), none⟩,
        ⟨some 115, .load (.tmp 114) 11 true .plain, none⟩,
        ⟨some 116, .bslice 11 [.str ⟨#[]⟩, .int .i64 0, .str ⟨#[]⟩, .int .i64 0, .int .i64 0, .int .i64 0, .int .i64 0, .int .i64 0, .int .i64 0, .int .i64 0, .int .i64 0] 1 [(0, .tmp 115)], none⟩,
        ⟨some 117, .append 11 104 true (.tmp 110) (.tmp 116), none⟩,
        ⟨some 9, .mov (.tmp 117), none⟩] [5, 7, 9, 10])
      .skip)))
  (.region [
    ⟨some 102, .mov (.tmp 10), none⟩,
    ⟨some 103, .bin .add (.tmp 102) (.const (.int .i64 1)), none⟩,
    ⟨some 10, .mov (.tmp 103), none⟩] [5, 7, 9, 10])))
def c171 : CFn := ⟨121, [.tmp 2],
  (.seq (.region [
    ⟨some 2, .mov (.const (.bool false)), none⟩] [0])
  (.seq (.seq (.region [
    ⟨some 11, .mov (.tmp 0), none⟩,
    ⟨some 12, .len false (.tmp 11), none⟩,
    ⟨some 13, .bin .gtr (.tmp 12) (.const (.int .i64 1048576)), none⟩] [0, 13])
  (.cond (.tmp 13)
    (.seq (.region [
      ⟨some 2, .mov (.const (.bool true)), none⟩] [2])
    .ret)
    .skip))
  (.seq (.region [
    ⟨some 15, .mov (.tmp 0), none⟩,
    ⟨some 16, .call 37 [false] [.tmp 15], none⟩,
    ⟨some 14, .mov (.tmp 16), none⟩,
    ⟨some 17, .ext (.tmp 14) 0, none⟩,
    ⟨some 18, .ext (.tmp 14) 1, none⟩,
    ⟨some 3, .alloc [.str ⟨#[]⟩, .bool false, .int .i64 0, .bool false, .int .i64 0, .sl .own 7 [], .sl .own 11 [], .sl .own 4 [], .sl .own 4 []], none⟩,
    ⟨none, .store (.tmp 3) (.tmp 17) 9, none⟩,
    ⟨some 4, .mov (.tmp 18), none⟩] [3, 4])
  (.seq (.region [
    ⟨some 19, .load (.tmp 3) 9 true .plain, none⟩,
    ⟨some 20, .mov (.tmp 4), none⟩,
    ⟨some 21, .call 36 [false, false] [.tmp 19, .tmp 20], none⟩,
    ⟨some 5, .alloc [.str ⟨#[]⟩, .bool false, .int .i64 0, .bool false, .int .i64 0, .sl .own 7 [], .sl .own 11 [], .sl .own 4 [], .sl .own 4 []], none⟩,
    ⟨none, .store (.tmp 5) (.tmp 21) 9, none⟩] [3, 4, 5])
  (.seq (.region [
    ⟨some 22, .load (.tmp 5) 9 true .plain, none⟩,
    ⟨some 23, .call 35 [false] [.tmp 22], none⟩,
    ⟨some 6, .alloc [.str ⟨#[]⟩, .bool false, .int .i64 0, .bool false, .int .i64 0, .sl .own 7 [], .sl .own 11 [], .sl .own 4 [], .sl .own 4 []], none⟩,
    ⟨none, .store (.tmp 6) (.tmp 23) 9, none⟩] [3, 4, 5, 6])
  (.seq (.seq (.loud [
    ⟨some 24, .load (.tmp 5) 9 true .plain, none⟩,
    ⟨some 25, .load (.tmp 3) 9 true .plain, none⟩,
    ⟨some 26, .mov (.tmp 4), none⟩,
    ⟨some 27, .call 32 [false, false] [.tmp 25, .tmp 26], none⟩,
    ⟨some 28, .call 33 [false, false] [.tmp 24, .tmp 27], none⟩,
    ⟨some 29, .un .not (.tmp 28), none⟩,
    ⟨some 30, .mov (.tmp 29), none⟩,
    ⟨some 31, .load (.tmp 6) 9 true .plain, some (30, false)⟩,
    ⟨some 32, .load (.tmp 3) 9 true .plain, some (30, false)⟩,
    ⟨some 33, .mov (.tmp 4), some (30, false)⟩,
    ⟨some 34, .call 32 [false, false] [.tmp 32, .tmp 33], some (30, false)⟩,
    ⟨some 35, .call 34 [false] [.tmp 34], some (30, false)⟩,
    ⟨some 36, .call 33 [false, false] [.tmp 31, .tmp 35], some (30, false)⟩,
    ⟨some 37, .un .not (.tmp 36), some (30, false)⟩,
    ⟨some 38, .pick (.tmp 30) (.const (.bool true)) (.tmp 37), none⟩] [0, 0, 0, 6, 15, 31, 63, 127, 127, 127, 895, 1919, 4095, 8191, 16383] [3, 4, 5, 6, 38])
  (.cond (.tmp 38)
    (.seq (.region [
      ⟨some 2, .mov (.const (.bool false)), none⟩] [2])
    .ret)
    .skip))
  (.seq (.seq (.region [
    ⟨some 39, .load (.tmp 3) 9 true .plain, none⟩,
    ⟨some 40, .call 29 [false] [.tmp 39], none⟩,
    ⟨some 41, .un .not (.tmp 40), none⟩] [3, 4, 5, 6, 41])
  (.cond (.tmp 41)
    (.seq (.region [
      ⟨some 42, .faddr (.tmp 5) 0, none⟩,
      ⟨some 43, .load (.tmp 42) 1 false .plain, none⟩,
      ⟨some 44, .bin .eql (.tmp 43) (.const (.str ⟨#[]⟩)), none⟩,
      ⟨some 45, .mov (.tmp 44), none⟩,
      ⟨some 46, .faddr (.tmp 6) 0, some (45, true)⟩,
      ⟨some 47, .load (.tmp 46) 1 false .plain, some (45, true)⟩,
      ⟨some 48, .bin .eql (.tmp 47) (.const (.str ⟨#[]⟩)), some (45, true)⟩,
      ⟨some 49, .pick (.tmp 45) (.tmp 48) (.const (.bool false)), none⟩,
      ⟨some 2, .mov (.tmp 49), none⟩] [2])
    .ret)
    .skip))
  (.seq (.seq (.region [
    ⟨some 50, .load (.tmp 5) 9 true .plain, none⟩,
    ⟨some 51, .call 28 [false] [.tmp 50], none⟩,
    ⟨some 52, .un .not (.tmp 51), none⟩,
    ⟨some 53, .mov (.tmp 52), none⟩,
    ⟨some 54, .load (.tmp 6) 9 true .plain, some (53, false)⟩,
    ⟨some 55, .call 28 [false] [.tmp 54], some (53, false)⟩,
    ⟨some 56, .un .not (.tmp 55), some (53, false)⟩,
    ⟨some 57, .pick (.tmp 53) (.const (.bool true)) (.tmp 56), none⟩,
    ⟨some 58, .mov (.tmp 57), none⟩,
    ⟨some 59, .faddr (.tmp 5) 1, some (58, false)⟩,
    ⟨some 60, .load (.tmp 59) 1 false .plain, some (58, false)⟩,
    ⟨some 61, .pick (.tmp 58) (.const (.bool true)) (.tmp 60), none⟩,
    ⟨some 62, .mov (.tmp 61), none⟩,
    ⟨some 63, .faddr (.tmp 6) 1, some (62, false)⟩,
    ⟨some 64, .load (.tmp 63) 1 false .plain, some (62, false)⟩,
    ⟨some 65, .faddr (.tmp 3) 2, some (62, false)⟩,
    ⟨some 66, .load (.tmp 65) 1 false .plain, some (62, false)⟩,
    ⟨some 67, .bin .lss (.tmp 66) (.const (.int .i64 1000000)), some (62, false)⟩,
    ⟨some 68, .beq true (.tmp 64) (.tmp 67), some (62, false)⟩,
    ⟨some 69, .pick (.tmp 62) (.const (.bool true)) (.tmp 68), none⟩] [3, 4, 5, 69])
  (.cond (.tmp 69)
    (.seq (.region [
      ⟨some 2, .mov (.const (.bool false)), none⟩] [2])
    .ret)
    .skip))
  (.seq (.region [
    ⟨some 70, .bslice 11 [.str ⟨#[]⟩, .int .i64 0, .str ⟨#[]⟩, .int .i64 0, .int .i64 0, .int .i64 0, .int .i64 0, .int .i64 0, .int .i64 0, .int .i64 0, .int .i64 0] 0 [], none⟩,
    ⟨some 7, .mov (.tmp 70), none⟩] [3, 4, 5, 7])
  (.seq (.seq (.region [
    ⟨some 8, .mov (.const (.int .i64 0)), none⟩] [3, 4, 5, 7, 8])
  (.block 0
    (.loop [3, 4, 5, 7, 8] c171b0)))
  (.seq (.region [
    ⟨some 96, .bslice 11 [.str ⟨#[]⟩, .int .i64 0, .str ⟨#[]⟩, .int .i64 0, .int .i64 0, .int .i64 0, .int .i64 0, .int .i64 0, .int .i64 0, .int .i64 0, .int .i64 0] 0 [], none⟩,
    ⟨some 9, .mov (.tmp 96), none⟩] [5, 7, 9])
  (.seq (.seq (.region [
    ⟨some 10, .mov (.const (.int .i64 0)), none⟩] [5, 7, 9, 10])
  (.block 2
    (.loop [5, 7, 9, 10] c171b1)))
  (.seq (.region [
    ⟨some 118, .mov (.tmp 7), none⟩,
    ⟨some 119, .mov (.tmp 9), none⟩,
    ⟨some 120, .call 31 [false, false] [.tmp 118, .tmp 119], none⟩,
    ⟨some 2, .mov (.tmp 120), none⟩] [2])
  .ret)))))))))))))⟩
/-- The functions' own table. -/
def codeOf (k : Nat) : Option CFn :=
  match k with
  | 1 => some c1
  | 2 => some c2
  | 6 => some c6
  | 7 => some c7
  | 11 => some c11
  | 12 => some c12
  | 28 => some c28
  | 29 => some c29
  | 31 => some c31
  | 32 => some c32
  | 33 => some c33
  | 34 => some c34
  | 35 => some c35
  | 36 => some c36
  | 37 => some c37
  | 81 => some c81
  | 82 => some c82
  | 84 => some c84
  | 85 => some c85
  | 87 => some c87
  | 88 => some c88
  | 89 => some c89
  | 90 => some c90
  | 91 => some c91
  | 95 => some c95
  | 100 => some c100
  | 101 => some c101
  | 102 => some c102
  | 105 => some c105
  | 106 => some c106
  | 110 => some c110
  | 111 => some c111
  | 113 => some c113
  | 114 => some c114
  | 116 => some c116
  | 117 => some c117
  | 118 => some c118
  | 119 => some c119
  | 120 => some c120
  | 140 => some c140
  | 144 => some c144
  | 145 => some c145
  | 155 => some c155
  | 156 => some c156
  | 160 => some c160
  | 161 => some c161
  | 162 => some c162
  | 171 => some c171
  | _ => none
def prim : Callee := fun _ _ _ => none
def P : CProg := ⟨codeOf, prim⟩
@[simp] theorem fn1 : P.fn 1 = some c1 := rfl
@[simp] theorem fn2 : P.fn 2 = some c2 := rfl
@[simp] theorem fn6 : P.fn 6 = some c6 := rfl
@[simp] theorem fn7 : P.fn 7 = some c7 := rfl
@[simp] theorem fn11 : P.fn 11 = some c11 := rfl
@[simp] theorem fn12 : P.fn 12 = some c12 := rfl
@[simp] theorem fn28 : P.fn 28 = some c28 := rfl
@[simp] theorem fn29 : P.fn 29 = some c29 := rfl
@[simp] theorem fn31 : P.fn 31 = some c31 := rfl
@[simp] theorem fn32 : P.fn 32 = some c32 := rfl
@[simp] theorem fn33 : P.fn 33 = some c33 := rfl
@[simp] theorem fn34 : P.fn 34 = some c34 := rfl
@[simp] theorem fn35 : P.fn 35 = some c35 := rfl
@[simp] theorem fn36 : P.fn 36 = some c36 := rfl
@[simp] theorem fn37 : P.fn 37 = some c37 := rfl
@[simp] theorem fn81 : P.fn 81 = some c81 := rfl
@[simp] theorem fn82 : P.fn 82 = some c82 := rfl
@[simp] theorem fn84 : P.fn 84 = some c84 := rfl
@[simp] theorem fn85 : P.fn 85 = some c85 := rfl
@[simp] theorem fn87 : P.fn 87 = some c87 := rfl
@[simp] theorem fn88 : P.fn 88 = some c88 := rfl
@[simp] theorem fn89 : P.fn 89 = some c89 := rfl
@[simp] theorem fn90 : P.fn 90 = some c90 := rfl
@[simp] theorem fn91 : P.fn 91 = some c91 := rfl
@[simp] theorem fn95 : P.fn 95 = some c95 := rfl
@[simp] theorem fn100 : P.fn 100 = some c100 := rfl
@[simp] theorem fn101 : P.fn 101 = some c101 := rfl
@[simp] theorem fn102 : P.fn 102 = some c102 := rfl
@[simp] theorem fn105 : P.fn 105 = some c105 := rfl
@[simp] theorem fn106 : P.fn 106 = some c106 := rfl
@[simp] theorem fn110 : P.fn 110 = some c110 := rfl
@[simp] theorem fn111 : P.fn 111 = some c111 := rfl
@[simp] theorem fn113 : P.fn 113 = some c113 := rfl
@[simp] theorem fn114 : P.fn 114 = some c114 := rfl
@[simp] theorem fn116 : P.fn 116 = some c116 := rfl
@[simp] theorem fn117 : P.fn 117 = some c117 := rfl
@[simp] theorem fn118 : P.fn 118 = some c118 := rfl
@[simp] theorem fn119 : P.fn 119 = some c119 := rfl
@[simp] theorem fn120 : P.fn 120 = some c120 := rfl
@[simp] theorem fn140 : P.fn 140 = some c140 := rfl
@[simp] theorem fn144 : P.fn 144 = some c144 := rfl
@[simp] theorem fn145 : P.fn 145 = some c145 := rfl
@[simp] theorem fn155 : P.fn 155 = some c155 := rfl
@[simp] theorem fn156 : P.fn 156 = some c156 := rfl
@[simp] theorem fn160 : P.fn 160 = some c160 := rfl
@[simp] theorem fn161 : P.fn 161 = some c161 := rfl
@[simp] theorem fn162 : P.fn 162 = some c162 := rfl
@[simp] theorem fn171 : P.fn 171 = some c171 := rfl
end Go.Proofs.Ytfebkfeobdffjaa
