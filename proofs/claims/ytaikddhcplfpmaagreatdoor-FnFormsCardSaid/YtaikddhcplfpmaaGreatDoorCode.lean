/- The abstract code of the program's functions, printed by a program of ours out of Lean's own print of the translation. -/
import Derived.Test.YtaikddhcplfpmaaGreatDoorB1
namespace Go.Proofs.YtaikddhcplfpmaaGreatDoor
open Go
-- impl.MateAlive
def c1 : CFn := ⟨16, [.tmp 2],
  (.seq (.region [
    ⟨some 1, .box (.tmp 0), none⟩,
    ⟨some 2, .mov (.const (.bool false)), none⟩] [1])
  (.seq (.region [
    ⟨some 3, .faddr (.tmp 1) 7, none⟩,
    ⟨some 4, .load (.tmp 3) 1 false .plain, none⟩,
    ⟨some 5, .bin .eql (.tmp 4) (.const (.int .i64 3)), none⟩,
    ⟨some 6, .mov (.tmp 5), none⟩,
    ⟨some 7, .faddr (.tmp 1) 7, some (6, false)⟩,
    ⟨some 8, .load (.tmp 7) 1 false .plain, some (6, false)⟩,
    ⟨some 9, .bin .eql (.tmp 8) (.const (.int .i64 4)), some (6, false)⟩,
    ⟨some 10, .pick (.tmp 6) (.const (.bool true)) (.tmp 9), none⟩,
    ⟨some 11, .mov (.tmp 10), none⟩,
    ⟨some 12, .faddr (.tmp 1) 7, some (11, false)⟩,
    ⟨some 13, .load (.tmp 12) 1 false .plain, some (11, false)⟩,
    ⟨some 14, .bin .eql (.tmp 13) (.const (.int .i64 6)), some (11, false)⟩,
    ⟨some 15, .pick (.tmp 11) (.const (.bool true)) (.tmp 14), none⟩,
    ⟨some 2, .mov (.tmp 15), none⟩] [2])
  .ret))⟩
-- spec.MateAlive
def c2 : CFn := ⟨16, [.tmp 2],
  (.seq (.region [
    ⟨some 1, .box (.tmp 0), none⟩,
    ⟨some 2, .mov (.const (.bool false)), none⟩] [1])
  (.seq (.region [
    ⟨some 3, .faddr (.tmp 1) 7, none⟩,
    ⟨some 4, .load (.tmp 3) 1 false .plain, none⟩,
    ⟨some 5, .bin .eql (.tmp 4) (.const (.int .i64 3)), none⟩,
    ⟨some 6, .mov (.tmp 5), none⟩,
    ⟨some 7, .faddr (.tmp 1) 7, some (6, false)⟩,
    ⟨some 8, .load (.tmp 7) 1 false .plain, some (6, false)⟩,
    ⟨some 9, .bin .eql (.tmp 8) (.const (.int .i64 4)), some (6, false)⟩,
    ⟨some 10, .pick (.tmp 6) (.const (.bool true)) (.tmp 9), none⟩,
    ⟨some 11, .mov (.tmp 10), none⟩,
    ⟨some 12, .faddr (.tmp 1) 7, some (11, false)⟩,
    ⟨some 13, .load (.tmp 12) 1 false .plain, some (11, false)⟩,
    ⟨some 14, .bin .eql (.tmp 13) (.const (.int .i64 6)), some (11, false)⟩,
    ⟨some 15, .pick (.tmp 11) (.const (.bool true)) (.tmp 14), none⟩,
    ⟨some 2, .mov (.tmp 15), none⟩] [2])
  .ret))⟩
-- impl.MateWantsOk
def c6b0 : CCode := (.seq (.region [
    ⟨some 10, .bin .lss (.tmp 9) (.tmp 8), none⟩] [0, 3, 7, 8, 9, 10])
  (.seq (.cond (.tmp 10)
    .skip
    (.exit 0))
  (.seq (.block 1
    (.seq (.region [
      ⟨some 11, .mov (.tmp 9), none⟩,
      ⟨some 12, .iaddr 7 (.tmp 7) (.tmp 9), none⟩,
      ⟨some 13, .load (.tmp 12) 7 true .plain, none⟩,
      ⟨some 5, .alloc [.str ⟨#[]⟩, .int .i64 0, .str ⟨#[]⟩, .int .i64 0, .int .i64 0, .int .i64 0, .int .i64 0], none⟩,
      ⟨some 4, .mov (.tmp 11), none⟩,
      ⟨none, .store (.tmp 5) (.tmp 13) 7, none⟩] [0, 3, 4, 5, 7, 8, 9])
    (.seq (.seq (.quiet [
      ⟨some 14, .load (.tmp 5) 7 true .plain, none⟩,
      ⟨some 15, .call 82 [false] [.tmp 14], none⟩,
      ⟨some 16, .un .not (.tmp 15), none⟩,
      ⟨some 17, .mov (.tmp 16), none⟩,
      ⟨some 18, .mov (.tmp 4), some (17, false)⟩,
      ⟨some 19, .bin .gtr (.tmp 18) (.const (.int .i64 0)), some (17, false)⟩,
      ⟨some 20, .mov (.tmp 19), some (17, false)⟩,
      ⟨some 21, .mov (.tmp 0), some (20, true)⟩,
      ⟨some 22, .mov (.tmp 4), some (20, true)⟩,
      ⟨some 23, .bin .sub (.tmp 22) (.const (.int .i64 1)), some (20, true)⟩,
      ⟨some 24, .iaddr 7 (.tmp 21) (.tmp 23), some (20, true)⟩,
      ⟨some 25, .faddr (.tmp 24) 0, some (20, true)⟩,
      ⟨some 26, .load (.tmp 25) 1 false .plain, some (20, true)⟩,
      ⟨some 27, .faddr (.tmp 5) 0, some (20, true)⟩,
      ⟨some 28, .load (.tmp 27) 1 false .plain, some (20, true)⟩,
      ⟨some 29, .bin .geq (.tmp 26) (.tmp 28), some (20, true)⟩,
      ⟨some 30, .pick (.tmp 20) (.tmp 29) (.const (.bool false)), some (17, false)⟩,
      ⟨some 31, .pick (.tmp 17) (.const (.bool true)) (.tmp 30), none⟩,
      ⟨some 32, .mov (.tmp 31), none⟩,
      ⟨some 33, .faddr (.tmp 5) 2, some (32, false)⟩,
      ⟨some 34, .load (.tmp 33) 1 false .plain, some (32, false)⟩,
      ⟨some 35, .bin .neq (.tmp 34) (.const (.str ⟨#[]⟩)), some (32, false)⟩,
      ⟨some 36, .mov (.tmp 35), some (32, false)⟩,
      ⟨some 37, .mov (.tmp 3), some (36, true)⟩,
      ⟨some 38, .faddr (.tmp 5) 2, some (36, true)⟩,
      ⟨some 39, .load (.tmp 38) 1 false .plain, some (36, true)⟩,
      ⟨some 40, .lookup false (.bool false) (.tmp 37) (.tmp 39), some (36, true)⟩,
      ⟨some 41, .pick (.tmp 36) (.tmp 40) (.const (.bool false)), some (32, false)⟩,
      ⟨some 42, .pick (.tmp 32) (.const (.bool true)) (.tmp 41), none⟩] [0, 3, 5, 7, 8, 9, 42])
    (.cond (.tmp 42)
      (.seq (.region [
        ⟨some 2, .mov (.const (.bool false)), none⟩] [2])
      .ret)
      .skip))
    (.region [
      ⟨some 43, .mov (.tmp 3), none⟩,
      ⟨some 44, .faddr (.tmp 5) 2, none⟩,
      ⟨some 45, .load (.tmp 44) 1 false .plain, none⟩,
      ⟨none, .mapset false (.tmp 43) (.tmp 45) (.const (.bool true)), none⟩] [0, 3, 7, 8, 9]))))
  (.region [
    ⟨some 46, .bin .add (.tmp 9) (.const (.int .i64 1)), none⟩,
    ⟨some 9, .mov (.tmp 46), none⟩] [0, 3, 7, 8, 9]))))
def c6 : CFn := ⟨50, [.tmp 2],
  (.seq (.region [
    ⟨some 2, .mov (.const (.bool false)), none⟩] [0])
  (.seq (.region [
    ⟨some 6, .mkmap false, none⟩,
    ⟨some 3, .mov (.tmp 6), none⟩] [0, 3])
  (.seq (.seq (.region [
    ⟨some 7, .mov (.tmp 0), none⟩,
    ⟨some 8, .len false (.tmp 7), none⟩,
    ⟨some 9, .mov (.const (.int .i64 0)), none⟩] [0, 3, 7, 8, 9])
  (.block 0
    (.loop [0, 3, 7, 8, 9] c6b0)))
  (.seq (.region [
    ⟨some 47, .mov (.tmp 0), none⟩,
    ⟨some 48, .len false (.tmp 47), none⟩,
    ⟨some 49, .bin .leq (.tmp 48) (.const (.int .i64 10)), none⟩,
    ⟨some 2, .mov (.tmp 49), none⟩] [2])
  .ret))))⟩
-- spec.MateWantsOk
def c7b0 : CCode := (.seq (.seq (.region [
    ⟨some 38, .mov (.tmp 4), none⟩,
    ⟨some 39, .mov (.tmp 3), none⟩,
    ⟨some 40, .bin .lss (.tmp 38) (.tmp 39), none⟩] [0, 3, 4, 40])
  (.cond (.tmp 40)
    .skip
    (.exit 2)))
  (.seq (.block 3
    (.seq (.quiet [
      ⟨some 43, .mov (.tmp 0), none⟩,
      ⟨some 44, .mov (.tmp 3), none⟩,
      ⟨some 45, .iaddr 7 (.tmp 43) (.tmp 44), none⟩,
      ⟨some 46, .faddr (.tmp 45) 2, none⟩,
      ⟨some 47, .load (.tmp 46) 1 false .plain, none⟩,
      ⟨some 48, .bin .neq (.tmp 47) (.const (.str ⟨#[]⟩)), none⟩,
      ⟨some 49, .mov (.tmp 48), none⟩,
      ⟨some 50, .mov (.tmp 0), some (49, true)⟩,
      ⟨some 51, .mov (.tmp 4), some (49, true)⟩,
      ⟨some 52, .iaddr 7 (.tmp 50) (.tmp 51), some (49, true)⟩,
      ⟨some 53, .faddr (.tmp 52) 2, some (49, true)⟩,
      ⟨some 54, .load (.tmp 53) 1 false .plain, some (49, true)⟩,
      ⟨some 55, .mov (.tmp 0), some (49, true)⟩,
      ⟨some 56, .mov (.tmp 3), some (49, true)⟩,
      ⟨some 57, .iaddr 7 (.tmp 55) (.tmp 56), some (49, true)⟩,
      ⟨some 58, .faddr (.tmp 57) 2, some (49, true)⟩,
      ⟨some 59, .load (.tmp 58) 1 false .plain, some (49, true)⟩,
      ⟨some 60, .bin .eql (.tmp 54) (.tmp 59), some (49, true)⟩,
      ⟨some 61, .pick (.tmp 49) (.tmp 60) (.const (.bool false)), none⟩] [0, 3, 4, 61])
    (.cond (.tmp 61)
      (.seq (.region [
        ⟨some 2, .mov (.const (.bool false)), none⟩] [2])
      .ret)
      .skip)))
  (.region [
    ⟨some 41, .mov (.tmp 4), none⟩,
    ⟨some 42, .bin .add (.tmp 41) (.const (.int .i64 1)), none⟩,
    ⟨some 4, .mov (.tmp 42), none⟩] [0, 3, 4])))
def c7b1 : CCode := (.seq (.seq (.region [
    ⟨some 8, .mov (.tmp 3), none⟩,
    ⟨some 9, .mov (.tmp 0), none⟩,
    ⟨some 10, .len false (.tmp 9), none⟩,
    ⟨some 11, .bin .lss (.tmp 8) (.tmp 10), none⟩] [0, 3, 11])
  (.cond (.tmp 11)
    .skip
    (.exit 0)))
  (.seq (.block 1
    (.seq (.seq (.quiet [
      ⟨some 14, .mov (.tmp 0), none⟩,
      ⟨some 15, .mov (.tmp 3), none⟩,
      ⟨some 16, .iaddr 7 (.tmp 14) (.tmp 15), none⟩,
      ⟨some 17, .load (.tmp 16) 7 true .plain, none⟩,
      ⟨some 18, .call 81 [false] [.tmp 17], none⟩,
      ⟨some 19, .un .not (.tmp 18), none⟩,
      ⟨some 20, .mov (.tmp 19), none⟩,
      ⟨some 21, .mov (.tmp 3), some (20, false)⟩,
      ⟨some 22, .bin .gtr (.tmp 21) (.const (.int .i64 0)), some (20, false)⟩,
      ⟨some 23, .mov (.tmp 22), some (20, false)⟩,
      ⟨some 24, .mov (.tmp 0), some (23, true)⟩,
      ⟨some 25, .mov (.tmp 3), some (23, true)⟩,
      ⟨some 26, .bin .sub (.tmp 25) (.const (.int .i64 1)), some (23, true)⟩,
      ⟨some 27, .iaddr 7 (.tmp 24) (.tmp 26), some (23, true)⟩,
      ⟨some 28, .faddr (.tmp 27) 0, some (23, true)⟩,
      ⟨some 29, .load (.tmp 28) 1 false .plain, some (23, true)⟩,
      ⟨some 30, .mov (.tmp 0), some (23, true)⟩,
      ⟨some 31, .mov (.tmp 3), some (23, true)⟩,
      ⟨some 32, .iaddr 7 (.tmp 30) (.tmp 31), some (23, true)⟩,
      ⟨some 33, .faddr (.tmp 32) 0, some (23, true)⟩,
      ⟨some 34, .load (.tmp 33) 1 false .plain, some (23, true)⟩,
      ⟨some 35, .bin .geq (.tmp 29) (.tmp 34), some (23, true)⟩,
      ⟨some 36, .pick (.tmp 23) (.tmp 35) (.const (.bool false)), some (20, false)⟩,
      ⟨some 37, .pick (.tmp 20) (.const (.bool true)) (.tmp 36), none⟩] [0, 3, 37])
    (.cond (.tmp 37)
      (.seq (.region [
        ⟨some 2, .mov (.const (.bool false)), none⟩] [2])
      .ret)
      .skip))
    (.seq (.region [
      ⟨some 4, .mov (.const (.int .i64 0)), none⟩] [0, 3, 4])
    (.block 2
      (.loop [0, 3, 4] c7b0)))))
  (.region [
    ⟨some 12, .mov (.tmp 3), none⟩,
    ⟨some 13, .bin .add (.tmp 12) (.const (.int .i64 1)), none⟩,
    ⟨some 3, .mov (.tmp 13), none⟩] [0, 3])))
def c7 : CFn := ⟨62, [.tmp 2],
  (.seq (.region [
    ⟨some 2, .mov (.const (.bool false)), none⟩] [0])
  (.seq (.seq (.region [
    ⟨some 5, .mov (.tmp 0), none⟩,
    ⟨some 6, .len false (.tmp 5), none⟩,
    ⟨some 7, .bin .gtr (.tmp 6) (.const (.int .i64 10)), none⟩] [0, 7])
  (.cond (.tmp 7)
    (.seq (.region [
      ⟨some 2, .mov (.const (.bool false)), none⟩] [2])
    .ret)
    .skip))
  (.seq (.seq (.region [
    ⟨some 3, .mov (.const (.int .i64 0)), none⟩] [0, 3])
  (.block 0
    (.loop [0, 3] c7b1)))
  (.seq (.region [
    ⟨some 2, .mov (.const (.bool true)), none⟩] [2])
  .ret))))⟩
-- impl.MateRunsOk
def c11b0 : CCode := (.seq (.region [
    ⟨some 13, .bin .lss (.tmp 12) (.tmp 11), none⟩] [0, 1, 10, 11, 12, 13])
  (.seq (.cond (.tmp 13)
    .skip
    (.exit 0))
  (.seq (.block 1
    (.seq (.region [
      ⟨some 14, .mov (.tmp 12), none⟩,
      ⟨some 15, .iaddr 11 (.tmp 10) (.tmp 12), none⟩,
      ⟨some 16, .load (.tmp 15) 11 true .plain, none⟩,
      ⟨some 6, .alloc [.str ⟨#[]⟩, .int .i64 0, .str ⟨#[]⟩, .int .i64 0, .int .i64 0, .int .i64 0, .int .i64 0, .int .i64 0, .int .i64 0, .int .i64 0, .int .i64 0], none⟩,
      ⟨some 5, .mov (.tmp 14), none⟩,
      ⟨none, .store (.tmp 6) (.tmp 16) 11, none⟩] [0, 1, 5, 6, 10, 11, 12])
    (.seq (.seq (.quiet [
      ⟨some 17, .faddr (.tmp 6) 0, none⟩,
      ⟨some 18, .load (.tmp 17) 7 true .plain, none⟩,
      ⟨some 19, .call 82 [false] [.tmp 18], none⟩,
      ⟨some 20, .un .not (.tmp 19), none⟩,
      ⟨some 21, .mov (.tmp 20), none⟩,
      ⟨some 22, .mov (.tmp 5), some (21, false)⟩,
      ⟨some 23, .bin .gtr (.tmp 22) (.const (.int .i64 0)), some (21, false)⟩,
      ⟨some 24, .mov (.tmp 23), some (21, false)⟩,
      ⟨some 25, .mov (.tmp 0), some (24, true)⟩,
      ⟨some 26, .mov (.tmp 5), some (24, true)⟩,
      ⟨some 27, .bin .sub (.tmp 26) (.const (.int .i64 1)), some (24, true)⟩,
      ⟨some 28, .iaddr 11 (.tmp 25) (.tmp 27), some (24, true)⟩,
      ⟨some 29, .faddr (.tmp 28) 0, some (24, true)⟩,
      ⟨some 30, .faddr (.tmp 29) 0, some (24, true)⟩,
      ⟨some 31, .load (.tmp 30) 1 false .plain, some (24, true)⟩,
      ⟨some 32, .faddr (.tmp 6) 0, some (24, true)⟩,
      ⟨some 33, .faddr (.tmp 32) 0, some (24, true)⟩,
      ⟨some 34, .load (.tmp 33) 1 false .plain, some (24, true)⟩,
      ⟨some 35, .bin .geq (.tmp 31) (.tmp 34), some (24, true)⟩,
      ⟨some 36, .pick (.tmp 24) (.tmp 35) (.const (.bool false)), some (21, false)⟩,
      ⟨some 37, .pick (.tmp 21) (.const (.bool true)) (.tmp 36), none⟩,
      ⟨some 38, .mov (.tmp 37), none⟩,
      ⟨some 39, .faddr (.tmp 6) 7, some (38, false)⟩,
      ⟨some 40, .load (.tmp 39) 1 false .plain, some (38, false)⟩,
      ⟨some 41, .call 85 [false, false, false] [.tmp 40, .const (.int .i64 1), .const (.int .i64 6)], some (38, false)⟩,
      ⟨some 42, .un .not (.tmp 41), some (38, false)⟩,
      ⟨some 43, .pick (.tmp 38) (.const (.bool true)) (.tmp 42), none⟩,
      ⟨some 44, .mov (.tmp 43), none⟩,
      ⟨some 45, .faddr (.tmp 6) 8, some (44, false)⟩,
      ⟨some 46, .load (.tmp 45) 1 false .plain, some (44, false)⟩,
      ⟨some 47, .call 85 [false, false, false] [.tmp 46, .const (.int .i64 0), .const (.int .i64 100)], some (44, false)⟩,
      ⟨some 48, .un .not (.tmp 47), some (44, false)⟩,
      ⟨some 49, .pick (.tmp 44) (.const (.bool true)) (.tmp 48), none⟩,
      ⟨some 50, .mov (.tmp 49), none⟩,
      ⟨some 51, .faddr (.tmp 6) 7, some (50, false)⟩,
      ⟨some 52, .load (.tmp 51) 1 false .plain, some (50, false)⟩,
      ⟨some 53, .bin .eql (.tmp 52) (.const (.int .i64 2)), some (50, false)⟩,
      ⟨some 54, .mov (.tmp 53), some (50, false)⟩,
      ⟨some 55, .faddr (.tmp 6) 8, some (54, true)⟩,
      ⟨some 56, .load (.tmp 55) 1 false .plain, some (54, true)⟩,
      ⟨some 57, .bin .neq (.tmp 56) (.const (.int .i64 0)), some (54, true)⟩,
      ⟨some 58, .pick (.tmp 54) (.tmp 57) (.const (.bool false)), some (50, false)⟩,
      ⟨some 59, .pick (.tmp 50) (.const (.bool true)) (.tmp 58), none⟩,
      ⟨some 60, .mov (.tmp 59), none⟩,
      ⟨some 61, .faddr (.tmp 6) 9, some (60, false)⟩,
      ⟨some 62, .load (.tmp 61) 1 false .plain, some (60, false)⟩,
      ⟨some 63, .call 85 [false, false, false] [.tmp 62, .const (.int .i64 0), .const (.int .i64 1000)], some (60, false)⟩,
      ⟨some 64, .un .not (.tmp 63), some (60, false)⟩,
      ⟨some 65, .pick (.tmp 60) (.const (.bool true)) (.tmp 64), none⟩,
      ⟨some 66, .mov (.tmp 65), none⟩,
      ⟨some 67, .faddr (.tmp 6) 10, some (66, false)⟩,
      ⟨some 68, .load (.tmp 67) 1 false .plain, some (66, false)⟩,
      ⟨some 69, .call 85 [false, false, false] [.tmp 68, .const (.int .i64 0), .const (.int .i64 1000016)], some (66, false)⟩,
      ⟨some 70, .un .not (.tmp 69), some (66, false)⟩,
      ⟨some 71, .pick (.tmp 66) (.const (.bool true)) (.tmp 70), none⟩] [0, 1, 6, 10, 11, 12, 71])
    (.cond (.tmp 71)
      (.seq (.region [
        ⟨some 4, .mov (.const (.bool false)), none⟩] [4])
      .ret)
      .skip))
    (.seq (.region [
      ⟨some 72, .faddr (.tmp 6) 0, none⟩,
      ⟨some 73, .faddr (.tmp 72) 2, none⟩,
      ⟨some 74, .load (.tmp 73) 1 false .plain, none⟩,
      ⟨some 75, .bin .eql (.tmp 74) (.const (.str ⟨#[]⟩)), none⟩,
      ⟨some 76, .mov (.tmp 75), none⟩,
      ⟨some 77, .faddr (.tmp 6) 10, some (76, true)⟩,
      ⟨some 78, .load (.tmp 77) 1 false .plain, some (76, true)⟩,
      ⟨some 79, .bin .neq (.tmp 78) (.const (.int .i64 0)), some (76, true)⟩,
      ⟨some 80, .pick (.tmp 76) (.tmp 79) (.const (.bool false)), none⟩,
      ⟨some 81, .mov (.tmp 80), none⟩,
      ⟨some 82, .faddr (.tmp 6) 0, some (81, false)⟩,
      ⟨some 83, .faddr (.tmp 82) 2, some (81, false)⟩,
      ⟨some 84, .load (.tmp 83) 1 false .plain, some (81, false)⟩,
      ⟨some 85, .bin .neq (.tmp 84) (.const (.str ⟨#[]⟩)), some (81, false)⟩,
      ⟨some 86, .mov (.tmp 85), some (81, false)⟩,
      ⟨some 87, .load (.tmp 6) 11 true .plain, some (86, true)⟩,
      ⟨some 88, .call 1 [false] [.tmp 87], some (86, true)⟩,
      ⟨some 89, .pick (.tmp 86) (.tmp 88) (.const (.bool false)), some (81, false)⟩,
      ⟨some 90, .mov (.tmp 89), some (81, false)⟩,
      ⟨some 91, .faddr (.tmp 6) 10, some (90, true)⟩,
      ⟨some 92, .load (.tmp 91) 1 false .plain, some (90, true)⟩,
      ⟨some 93, .mov (.tmp 1), some (90, true)⟩,
      ⟨some 94, .bin .add (.tmp 93) (.const (.int .i64 4)), some (90, true)⟩,
      ⟨some 95, .bin .lss (.tmp 92) (.tmp 94), some (90, true)⟩,
      ⟨some 96, .pick (.tmp 90) (.tmp 95) (.const (.bool false)), some (81, false)⟩,
      ⟨some 97, .pick (.tmp 81) (.const (.bool true)) (.tmp 96), none⟩] [0, 1, 10, 11, 12, 97])
    (.cond (.tmp 97)
      (.seq (.region [
        ⟨some 4, .mov (.const (.bool false)), none⟩] [4])
      .ret)
      .skip)))))
  (.region [
    ⟨some 98, .bin .add (.tmp 12) (.const (.int .i64 1)), none⟩,
    ⟨some 12, .mov (.tmp 98), none⟩] [0, 1, 10, 11, 12]))))
def c11 : CFn := ⟨99, [.tmp 4],
  (.seq (.region [
    ⟨some 4, .mov (.const (.bool false)), none⟩] [0, 1])
  (.seq (.seq (.region [
    ⟨some 7, .mov (.tmp 0), none⟩,
    ⟨some 8, .len false (.tmp 7), none⟩,
    ⟨some 9, .bin .gtr (.tmp 8) (.const (.int .i64 20)), none⟩] [0, 1, 9])
  (.cond (.tmp 9)
    (.seq (.region [
      ⟨some 4, .mov (.const (.bool false)), none⟩] [4])
    .ret)
    .skip))
  (.seq (.seq (.region [
    ⟨some 10, .mov (.tmp 0), none⟩,
    ⟨some 11, .len false (.tmp 10), none⟩,
    ⟨some 12, .mov (.const (.int .i64 0)), none⟩] [0, 1, 10, 11, 12])
  (.block 0
    (.loop [0, 1, 10, 11, 12] c11b0)))
  (.seq (.region [
    ⟨some 4, .mov (.const (.bool true)), none⟩] [4])
  .ret))))⟩
-- spec.MateRunsOk
def c12b0 : CCode := (.seq (.seq (.region [
    ⟨some 9, .mov (.tmp 5), none⟩,
    ⟨some 10, .mov (.tmp 0), none⟩,
    ⟨some 11, .len false (.tmp 10), none⟩,
    ⟨some 12, .bin .lss (.tmp 9) (.tmp 11), none⟩] [0, 1, 5, 12])
  (.cond (.tmp 12)
    .skip
    (.exit 0)))
  (.seq (.block 1
    (.seq (.quiet [
      ⟨some 15, .mov (.tmp 0), none⟩,
      ⟨some 16, .mov (.tmp 5), none⟩,
      ⟨some 17, .iaddr 11 (.tmp 15) (.tmp 16), none⟩,
      ⟨some 18, .load (.tmp 17) 11 true .plain, none⟩,
      ⟨some 19, .mov (.tmp 1), none⟩,
      ⟨some 20, .call 84 [false, false] [.tmp 18, .tmp 19], none⟩,
      ⟨some 21, .un .not (.tmp 20), none⟩,
      ⟨some 22, .mov (.tmp 21), none⟩,
      ⟨some 23, .mov (.tmp 5), some (22, false)⟩,
      ⟨some 24, .bin .gtr (.tmp 23) (.const (.int .i64 0)), some (22, false)⟩,
      ⟨some 25, .mov (.tmp 24), some (22, false)⟩,
      ⟨some 26, .mov (.tmp 0), some (25, true)⟩,
      ⟨some 27, .mov (.tmp 5), some (25, true)⟩,
      ⟨some 28, .bin .sub (.tmp 27) (.const (.int .i64 1)), some (25, true)⟩,
      ⟨some 29, .iaddr 11 (.tmp 26) (.tmp 28), some (25, true)⟩,
      ⟨some 30, .faddr (.tmp 29) 0, some (25, true)⟩,
      ⟨some 31, .faddr (.tmp 30) 0, some (25, true)⟩,
      ⟨some 32, .load (.tmp 31) 1 false .plain, some (25, true)⟩,
      ⟨some 33, .mov (.tmp 0), some (25, true)⟩,
      ⟨some 34, .mov (.tmp 5), some (25, true)⟩,
      ⟨some 35, .iaddr 11 (.tmp 33) (.tmp 34), some (25, true)⟩,
      ⟨some 36, .faddr (.tmp 35) 0, some (25, true)⟩,
      ⟨some 37, .faddr (.tmp 36) 0, some (25, true)⟩,
      ⟨some 38, .load (.tmp 37) 1 false .plain, some (25, true)⟩,
      ⟨some 39, .bin .geq (.tmp 32) (.tmp 38), some (25, true)⟩,
      ⟨some 40, .pick (.tmp 25) (.tmp 39) (.const (.bool false)), some (22, false)⟩,
      ⟨some 41, .pick (.tmp 22) (.const (.bool true)) (.tmp 40), none⟩] [0, 1, 5, 41])
    (.cond (.tmp 41)
      (.seq (.region [
        ⟨some 4, .mov (.const (.bool false)), none⟩] [4])
      .ret)
      .skip)))
  (.region [
    ⟨some 13, .mov (.tmp 5), none⟩,
    ⟨some 14, .bin .add (.tmp 13) (.const (.int .i64 1)), none⟩,
    ⟨some 5, .mov (.tmp 14), none⟩] [0, 1, 5])))
def c12 : CFn := ⟨42, [.tmp 4],
  (.seq (.region [
    ⟨some 4, .mov (.const (.bool false)), none⟩] [0, 1])
  (.seq (.seq (.region [
    ⟨some 6, .mov (.tmp 0), none⟩,
    ⟨some 7, .len false (.tmp 6), none⟩,
    ⟨some 8, .bin .gtr (.tmp 7) (.const (.int .i64 20)), none⟩] [0, 1, 8])
  (.cond (.tmp 8)
    (.seq (.region [
      ⟨some 4, .mov (.const (.bool false)), none⟩] [4])
    .ret)
    .skip))
  (.seq (.seq (.region [
    ⟨some 5, .mov (.const (.int .i64 0)), none⟩] [0, 1, 5])
  (.block 0
    (.loop [0, 1, 5] c12b0)))
  (.seq (.region [
    ⟨some 4, .mov (.const (.bool true)), none⟩] [4])
  .ret))))⟩
-- spec.l1WantOk
def c81 : CFn := ⟨41, [.tmp 2],
  (.seq (.region [
    ⟨some 1, .box (.tmp 0), none⟩,
    ⟨some 2, .mov (.const (.bool false)), none⟩] [1])
  (.seq (.region [
    ⟨some 3, .faddr (.tmp 1) 0, none⟩,
    ⟨some 4, .load (.tmp 3) 1 false .plain, none⟩,
    ⟨some 5, .call 101 [false] [.tmp 4], none⟩,
    ⟨some 6, .mov (.tmp 5), none⟩,
    ⟨some 7, .faddr (.tmp 1) 1, some (6, true)⟩,
    ⟨some 8, .load (.tmp 7) 1 false .plain, some (6, true)⟩,
    ⟨some 9, .call 102 [false, false, false] [.tmp 8, .const (.int .i64 1), .const (.int .i64 1000000)], some (6, true)⟩,
    ⟨some 10, .pick (.tmp 6) (.tmp 9) (.const (.bool false)), none⟩,
    ⟨some 11, .mov (.tmp 10), none⟩,
    ⟨some 12, .faddr (.tmp 1) 2, some (11, true)⟩,
    ⟨some 13, .load (.tmp 12) 1 false .plain, some (11, true)⟩,
    ⟨some 14, .bin .eql (.tmp 13) (.const (.str ⟨#[]⟩)), some (11, true)⟩,
    ⟨some 15, .mov (.tmp 14), some (11, true)⟩,
    ⟨some 16, .faddr (.tmp 1) 2, some (15, false)⟩,
    ⟨some 17, .load (.tmp 16) 1 false .plain, some (15, false)⟩,
    ⟨some 18, .call 100 [false] [.tmp 17], some (15, false)⟩,
    ⟨some 19, .pick (.tmp 15) (.const (.bool true)) (.tmp 18), some (11, true)⟩,
    ⟨some 20, .pick (.tmp 11) (.tmp 19) (.const (.bool false)), none⟩,
    ⟨some 21, .mov (.tmp 20), none⟩,
    ⟨some 22, .faddr (.tmp 1) 3, some (21, true)⟩,
    ⟨some 23, .load (.tmp 22) 1 false .plain, some (21, true)⟩,
    ⟨some 24, .call 102 [false, false, false] [.tmp 23, .const (.int .i64 0), .const (.int .i64 100)], some (21, true)⟩,
    ⟨some 25, .pick (.tmp 21) (.tmp 24) (.const (.bool false)), none⟩,
    ⟨some 26, .mov (.tmp 25), none⟩,
    ⟨some 27, .faddr (.tmp 1) 4, some (26, true)⟩,
    ⟨some 28, .load (.tmp 27) 1 false .plain, some (26, true)⟩,
    ⟨some 29, .call 102 [false, false, false] [.tmp 28, .const (.int .i64 0), .const (.int .i64 100)], some (26, true)⟩,
    ⟨some 30, .pick (.tmp 26) (.tmp 29) (.const (.bool false)), none⟩,
    ⟨some 31, .mov (.tmp 30), none⟩,
    ⟨some 32, .faddr (.tmp 1) 5, some (31, true)⟩,
    ⟨some 33, .load (.tmp 32) 1 false .plain, some (31, true)⟩,
    ⟨some 34, .call 102 [false, false, false] [.tmp 33, .const (.int .i64 0), .const (.int .i64 100)], some (31, true)⟩,
    ⟨some 35, .pick (.tmp 31) (.tmp 34) (.const (.bool false)), none⟩,
    ⟨some 36, .mov (.tmp 35), none⟩,
    ⟨some 37, .faddr (.tmp 1) 6, some (36, true)⟩,
    ⟨some 38, .load (.tmp 37) 1 false .plain, some (36, true)⟩,
    ⟨some 39, .call 102 [false, false, false] [.tmp 38, .const (.int .i64 0), .const (.int .i64 100)], some (36, true)⟩,
    ⟨some 40, .pick (.tmp 36) (.tmp 39) (.const (.bool false)), none⟩,
    ⟨some 2, .mov (.tmp 40), none⟩] [2])
  .ret))⟩
-- impl.wantOk
def c82 : CFn := ⟨41, [.tmp 2],
  (.seq (.region [
    ⟨some 1, .box (.tmp 0), none⟩,
    ⟨some 2, .mov (.const (.bool false)), none⟩] [1])
  (.seq (.region [
    ⟨some 3, .faddr (.tmp 1) 0, none⟩,
    ⟨some 4, .load (.tmp 3) 1 false .plain, none⟩,
    ⟨some 5, .call 105 [false] [.tmp 4], none⟩,
    ⟨some 6, .mov (.tmp 5), none⟩,
    ⟨some 7, .faddr (.tmp 1) 1, some (6, true)⟩,
    ⟨some 8, .load (.tmp 7) 1 false .plain, some (6, true)⟩,
    ⟨some 9, .call 85 [false, false, false] [.tmp 8, .const (.int .i64 1), .const (.int .i64 1000000)], some (6, true)⟩,
    ⟨some 10, .pick (.tmp 6) (.tmp 9) (.const (.bool false)), none⟩,
    ⟨some 11, .mov (.tmp 10), none⟩,
    ⟨some 12, .faddr (.tmp 1) 2, some (11, true)⟩,
    ⟨some 13, .load (.tmp 12) 1 false .plain, some (11, true)⟩,
    ⟨some 14, .bin .eql (.tmp 13) (.const (.str ⟨#[]⟩)), some (11, true)⟩,
    ⟨some 15, .mov (.tmp 14), some (11, true)⟩,
    ⟨some 16, .faddr (.tmp 1) 2, some (15, false)⟩,
    ⟨some 17, .load (.tmp 16) 1 false .plain, some (15, false)⟩,
    ⟨some 18, .call 106 [false] [.tmp 17], some (15, false)⟩,
    ⟨some 19, .pick (.tmp 15) (.const (.bool true)) (.tmp 18), some (11, true)⟩,
    ⟨some 20, .pick (.tmp 11) (.tmp 19) (.const (.bool false)), none⟩,
    ⟨some 21, .mov (.tmp 20), none⟩,
    ⟨some 22, .faddr (.tmp 1) 3, some (21, true)⟩,
    ⟨some 23, .load (.tmp 22) 1 false .plain, some (21, true)⟩,
    ⟨some 24, .call 85 [false, false, false] [.tmp 23, .const (.int .i64 0), .const (.int .i64 100)], some (21, true)⟩,
    ⟨some 25, .pick (.tmp 21) (.tmp 24) (.const (.bool false)), none⟩,
    ⟨some 26, .mov (.tmp 25), none⟩,
    ⟨some 27, .faddr (.tmp 1) 4, some (26, true)⟩,
    ⟨some 28, .load (.tmp 27) 1 false .plain, some (26, true)⟩,
    ⟨some 29, .call 85 [false, false, false] [.tmp 28, .const (.int .i64 0), .const (.int .i64 100)], some (26, true)⟩,
    ⟨some 30, .pick (.tmp 26) (.tmp 29) (.const (.bool false)), none⟩,
    ⟨some 31, .mov (.tmp 30), none⟩,
    ⟨some 32, .faddr (.tmp 1) 5, some (31, true)⟩,
    ⟨some 33, .load (.tmp 32) 1 false .plain, some (31, true)⟩,
    ⟨some 34, .call 85 [false, false, false] [.tmp 33, .const (.int .i64 0), .const (.int .i64 100)], some (31, true)⟩,
    ⟨some 35, .pick (.tmp 31) (.tmp 34) (.const (.bool false)), none⟩,
    ⟨some 36, .mov (.tmp 35), none⟩,
    ⟨some 37, .faddr (.tmp 1) 6, some (36, true)⟩,
    ⟨some 38, .load (.tmp 37) 1 false .plain, some (36, true)⟩,
    ⟨some 39, .call 85 [false, false, false] [.tmp 38, .const (.int .i64 0), .const (.int .i64 100)], some (36, true)⟩,
    ⟨some 40, .pick (.tmp 36) (.tmp 39) (.const (.bool false)), none⟩,
    ⟨some 2, .mov (.tmp 40), none⟩] [2])
  .ret))⟩
-- spec.l2RunOk
def c84 : CFn := ⟨60, [.tmp 4],
  (.seq (.region [
    ⟨some 2, .box (.tmp 0), none⟩,
    ⟨some 4, .mov (.const (.bool false)), none⟩] [1, 2])
  (.seq (.seq (.region [
    ⟨some 5, .faddr (.tmp 2) 0, none⟩,
    ⟨some 6, .load (.tmp 5) 7 true .plain, none⟩,
    ⟨some 7, .call 81 [false] [.tmp 6], none⟩,
    ⟨some 8, .un .not (.tmp 7), none⟩,
    ⟨some 9, .mov (.tmp 8), none⟩,
    ⟨some 10, .faddr (.tmp 2) 7, some (9, false)⟩,
    ⟨some 11, .load (.tmp 10) 1 false .plain, some (9, false)⟩,
    ⟨some 12, .call 102 [false, false, false] [.tmp 11, .const (.int .i64 1), .const (.int .i64 6)], some (9, false)⟩,
    ⟨some 13, .un .not (.tmp 12), some (9, false)⟩,
    ⟨some 14, .pick (.tmp 9) (.const (.bool true)) (.tmp 13), none⟩,
    ⟨some 15, .mov (.tmp 14), none⟩,
    ⟨some 16, .faddr (.tmp 2) 8, some (15, false)⟩,
    ⟨some 17, .load (.tmp 16) 1 false .plain, some (15, false)⟩,
    ⟨some 18, .call 102 [false, false, false] [.tmp 17, .const (.int .i64 0), .const (.int .i64 100)], some (15, false)⟩,
    ⟨some 19, .un .not (.tmp 18), some (15, false)⟩,
    ⟨some 20, .pick (.tmp 15) (.const (.bool true)) (.tmp 19), none⟩,
    ⟨some 21, .mov (.tmp 20), none⟩,
    ⟨some 22, .faddr (.tmp 2) 7, some (21, false)⟩,
    ⟨some 23, .load (.tmp 22) 1 false .plain, some (21, false)⟩,
    ⟨some 24, .bin .eql (.tmp 23) (.const (.int .i64 2)), some (21, false)⟩,
    ⟨some 25, .mov (.tmp 24), some (21, false)⟩,
    ⟨some 26, .faddr (.tmp 2) 8, some (25, true)⟩,
    ⟨some 27, .load (.tmp 26) 1 false .plain, some (25, true)⟩,
    ⟨some 28, .bin .neq (.tmp 27) (.const (.int .i64 0)), some (25, true)⟩,
    ⟨some 29, .pick (.tmp 25) (.tmp 28) (.const (.bool false)), some (21, false)⟩,
    ⟨some 30, .pick (.tmp 21) (.const (.bool true)) (.tmp 29), none⟩,
    ⟨some 31, .mov (.tmp 30), none⟩,
    ⟨some 32, .faddr (.tmp 2) 9, some (31, false)⟩,
    ⟨some 33, .load (.tmp 32) 1 false .plain, some (31, false)⟩,
    ⟨some 34, .call 102 [false, false, false] [.tmp 33, .const (.int .i64 0), .const (.int .i64 1000)], some (31, false)⟩,
    ⟨some 35, .un .not (.tmp 34), some (31, false)⟩,
    ⟨some 36, .pick (.tmp 31) (.const (.bool true)) (.tmp 35), none⟩] [1, 2, 36])
  (.cond (.tmp 36)
    (.seq (.region [
      ⟨some 4, .mov (.const (.bool false)), none⟩] [4])
    .ret)
    .skip))
  (.seq (.seq (.region [
    ⟨some 37, .faddr (.tmp 2) 10, none⟩,
    ⟨some 38, .load (.tmp 37) 1 false .plain, none⟩,
    ⟨some 39, .call 102 [false, false, false] [.tmp 38, .const (.int .i64 0), .const (.int .i64 1000016)], none⟩,
    ⟨some 40, .un .not (.tmp 39), none⟩,
    ⟨some 41, .mov (.tmp 40), none⟩,
    ⟨some 42, .faddr (.tmp 2) 0, some (41, false)⟩,
    ⟨some 43, .faddr (.tmp 42) 2, some (41, false)⟩,
    ⟨some 44, .load (.tmp 43) 1 false .plain, some (41, false)⟩,
    ⟨some 45, .bin .eql (.tmp 44) (.const (.str ⟨#[]⟩)), some (41, false)⟩,
    ⟨some 46, .mov (.tmp 45), some (41, false)⟩,
    ⟨some 47, .faddr (.tmp 2) 10, some (46, true)⟩,
    ⟨some 48, .load (.tmp 47) 1 false .plain, some (46, true)⟩,
    ⟨some 49, .bin .neq (.tmp 48) (.const (.int .i64 0)), some (46, true)⟩,
    ⟨some 50, .pick (.tmp 46) (.tmp 49) (.const (.bool false)), some (41, false)⟩,
    ⟨some 51, .pick (.tmp 41) (.const (.bool true)) (.tmp 50), none⟩] [1, 2, 51])
  (.cond (.tmp 51)
    (.seq (.region [
      ⟨some 4, .mov (.const (.bool false)), none⟩] [4])
    .ret)
    .skip))
  (.seq (.region [
    ⟨some 52, .load (.tmp 2) 11 true .plain, none⟩,
    ⟨some 53, .call 2 [false] [.tmp 52], none⟩,
    ⟨some 54, .un .not (.tmp 53), none⟩,
    ⟨some 55, .mov (.tmp 54), none⟩,
    ⟨some 56, .load (.tmp 2) 11 true .plain, some (55, false)⟩,
    ⟨some 57, .mov (.tmp 1), some (55, false)⟩,
    ⟨some 58, .call 95 [false, false] [.tmp 56, .tmp 57], some (55, false)⟩,
    ⟨some 59, .pick (.tmp 55) (.const (.bool true)) (.tmp 58), none⟩,
    ⟨some 4, .mov (.tmp 59), none⟩] [4])
  .ret))))⟩
-- impl.in
def c85 : CFn := ⟨15, [.tmp 6],
  (.seq (.region [
    ⟨some 6, .mov (.const (.bool false)), none⟩] [0, 1, 2])
  (.seq (.region [
    ⟨some 7, .mov (.tmp 0), none⟩,
    ⟨some 8, .mov (.tmp 1), none⟩,
    ⟨some 9, .bin .geq (.tmp 7) (.tmp 8), none⟩,
    ⟨some 10, .mov (.tmp 9), none⟩,
    ⟨some 11, .mov (.tmp 0), some (10, true)⟩,
    ⟨some 12, .mov (.tmp 2), some (10, true)⟩,
    ⟨some 13, .bin .leq (.tmp 11) (.tmp 12), some (10, true)⟩,
    ⟨some 14, .pick (.tmp 10) (.tmp 13) (.const (.bool false)), none⟩,
    ⟨some 6, .mov (.tmp 14), none⟩] [6])
  .ret))⟩
-- spec.l1DrawWant
def c87 : CFn := ⟨26, [.cell 4 7 true],
  (.seq (.region [
    ⟨some 4, .alloc [.str ⟨#[]⟩, .int .i64 0, .str ⟨#[]⟩, .int .i64 0, .int .i64 0, .int .i64 0, .int .i64 0], none⟩] [0, 1, 4])
  (.seq (.loud [
    ⟨some 5, .mov (.tmp 1), none⟩,
    ⟨some 6, .mov (.tmp 0), none⟩,
    ⟨some 7, .call 89 [true, false] [.tmp 6, .const (.int .i64 3)], none⟩,
    ⟨some 8, .bin .add (.const (.int .i64 1)) (.tmp 7), none⟩,
    ⟨some 9, .bslice 1 [.str ⟨#[]⟩] 4 [(0, .const (.str ⟨#[]⟩)), (1, .const (.str ⟨#[118, 111, 108]⟩)), (2, .const (.str ⟨#[105, 112]⟩)), (3, .const (.str ⟨#[118, 111, 108, 50]⟩))], none⟩,
    ⟨some 10, .mov (.tmp 0), none⟩,
    ⟨some 11, .call 89 [true, false] [.tmp 10, .const (.int .i64 4)], none⟩,
    ⟨some 12, .iaddr 1 (.tmp 9) (.tmp 11), none⟩,
    ⟨some 13, .load (.tmp 12) 1 false .plain, none⟩,
    ⟨some 14, .mov (.tmp 0), none⟩,
    ⟨some 15, .call 89 [true, false] [.tmp 14, .const (.int .i64 4)], none⟩,
    ⟨some 16, .mov (.tmp 0), none⟩,
    ⟨some 17, .call 89 [true, false] [.tmp 16, .const (.int .i64 3)], none⟩,
    ⟨some 18, .bslice 1 [.int .i64 0] 6 [(0, .const (.int .i64 0)), (1, .const (.int .i64 0)), (2, .const (.int .i64 0)), (3, .const (.int .i64 1)), (4, .const (.int .i64 3)), (5, .const (.int .i64 8))], none⟩,
    ⟨some 19, .mov (.tmp 0), none⟩,
    ⟨some 20, .call 89 [true, false] [.tmp 19, .const (.int .i64 6)], none⟩,
    ⟨some 21, .iaddr 1 (.tmp 18) (.tmp 20), none⟩,
    ⟨some 22, .load (.tmp 21) 1 false .plain, none⟩,
    ⟨some 23, .mov (.tmp 0), none⟩,
    ⟨some 24, .call 89 [true, false] [.tmp 23, .const (.int .i64 4)], none⟩,
    ⟨some 25, .build [.str ⟨#[]⟩, .int .i64 0, .str ⟨#[]⟩, .int .i64 0, .int .i64 0, .int .i64 0, .int .i64 0] [(0, 1, .tmp 5), (1, 1, .tmp 8), (2, 1, .tmp 13), (3, 1, .tmp 15), (4, 1, .tmp 17), (5, 1, .tmp 22), (6, 1, .tmp 24)], none⟩,
    ⟨none, .store (.tmp 4) (.tmp 25) 7, none⟩] [0, 0, 2, 6, 0, 0, 38, 118, 246, 0, 614, 0, 3686, 0, 0, 24166, 65126, 130662, 0, 319078, 1048575, 2097151] [4])
  .ret))⟩
-- spec.l2Spoil
def c88 : CFn := ⟨47, [.cell 4 11 true],
  (.seq (.region [
    ⟨some 3, .box (.tmp 1), none⟩,
    ⟨some 4, .alloc [.str ⟨#[]⟩, .int .i64 0, .str ⟨#[]⟩, .int .i64 0, .int .i64 0, .int .i64 0, .int .i64 0, .int .i64 0, .int .i64 0, .int .i64 0, .int .i64 0], none⟩] [0, 3, 4])
  (.seq (.seq (.region [
    ⟨some 5, .mov (.tmp 0), none⟩,
    ⟨some 6, .call 89 [true, false] [.tmp 5, .const (.int .i64 6)], none⟩] [0, 3, 4, 6])
  (.block 0
    (.seq (.region [
      ⟨some 10, .bin .eql (.tmp 6) (.const (.int .i64 0)), none⟩,
      ⟨some 9, .mov (.tmp 10), none⟩] [0, 3, 4, 6, 9])
    (.cond (.tmp 9)
      (.region [
        ⟨some 11, .mov (.tmp 0), none⟩,
        ⟨some 12, .faddr (.tmp 3) 0, none⟩,
        ⟨some 13, .load (.tmp 12) 7 true .plain, none⟩,
        ⟨some 14, .call 144 [true, false] [.tmp 11, .tmp 13], none⟩,
        ⟨some 15, .faddr (.tmp 3) 0, none⟩,
        ⟨none, .store (.tmp 15) (.tmp 14) 7, none⟩] [3, 4])
      (.seq (.region [
        ⟨some 17, .bin .eql (.tmp 6) (.const (.int .i64 1)), none⟩,
        ⟨some 16, .mov (.tmp 17), none⟩] [0, 3, 4, 6, 16])
      (.cond (.tmp 16)
        (.region [
          ⟨some 18, .mov (.tmp 0), none⟩,
          ⟨some 19, .call 89 [true, false] [.tmp 18, .const (.int .i64 9)], none⟩,
          ⟨some 20, .bin .sub (.tmp 19) (.const (.int .i64 1)), none⟩,
          ⟨some 21, .faddr (.tmp 3) 7, none⟩,
          ⟨none, .store (.tmp 21) (.tmp 20) 1, none⟩] [3, 4])
        (.seq (.region [
          ⟨some 23, .bin .eql (.tmp 6) (.const (.int .i64 2)), none⟩,
          ⟨some 22, .mov (.tmp 23), none⟩] [0, 3, 4, 6, 22])
        (.cond (.tmp 22)
          (.region [
            ⟨some 24, .bslice 1 [.int .i64 0] 3 [(0, .const (.int .i64 (-1))), (1, .const (.int .i64 100)), (2, .const (.int .i64 101))], none⟩,
            ⟨some 25, .mov (.tmp 0), none⟩,
            ⟨some 26, .call 89 [true, false] [.tmp 25, .const (.int .i64 3)], none⟩,
            ⟨some 27, .iaddr 1 (.tmp 24) (.tmp 26), none⟩,
            ⟨some 28, .load (.tmp 27) 1 false .plain, none⟩,
            ⟨some 29, .faddr (.tmp 3) 8, none⟩,
            ⟨none, .store (.tmp 29) (.tmp 28) 1, none⟩] [3, 4])
          (.seq (.region [
            ⟨some 31, .bin .eql (.tmp 6) (.const (.int .i64 3)), none⟩,
            ⟨some 30, .mov (.tmp 31), none⟩] [0, 3, 4, 6, 30])
          (.cond (.tmp 30)
            (.region [
              ⟨some 32, .bslice 1 [.int .i64 0] 3 [(0, .const (.int .i64 (-1))), (1, .const (.int .i64 1000)), (2, .const (.int .i64 1001))], none⟩,
              ⟨some 33, .mov (.tmp 0), none⟩,
              ⟨some 34, .call 89 [true, false] [.tmp 33, .const (.int .i64 3)], none⟩,
              ⟨some 35, .iaddr 1 (.tmp 32) (.tmp 34), none⟩,
              ⟨some 36, .load (.tmp 35) 1 false .plain, none⟩,
              ⟨some 37, .faddr (.tmp 3) 9, none⟩,
              ⟨none, .store (.tmp 37) (.tmp 36) 1, none⟩] [3, 4])
            (.seq (.region [
              ⟨some 39, .bin .eql (.tmp 6) (.const (.int .i64 4)), none⟩,
              ⟨some 38, .mov (.tmp 39), none⟩] [0, 3, 4, 38])
            (.cond (.tmp 38)
              (.region [
                ⟨some 40, .bslice 1 [.int .i64 0] 5 [(0, .const (.int .i64 (-1))), (1, .const (.int .i64 0)), (2, .const (.int .i64 1)), (3, .const (.int .i64 1000016)), (4, .const (.int .i64 1000017))], none⟩,
                ⟨some 41, .mov (.tmp 0), none⟩,
                ⟨some 42, .call 89 [true, false] [.tmp 41, .const (.int .i64 5)], none⟩,
                ⟨some 43, .iaddr 1 (.tmp 40) (.tmp 42), none⟩,
                ⟨some 44, .load (.tmp 43) 1 false .plain, none⟩,
                ⟨some 45, .faddr (.tmp 3) 10, none⟩,
                ⟨none, .store (.tmp 45) (.tmp 44) 1, none⟩] [3, 4])
              (.region [
                ⟨some 7, .faddr (.tmp 3) 0, none⟩,
                ⟨some 8, .faddr (.tmp 7) 2, none⟩,
                ⟨none, .store (.tmp 8) (.const (.str ⟨#[]⟩)) 1, none⟩] [3, 4])))))))))))))
  (.seq (.region [
    ⟨some 46, .load (.tmp 3) 11 true .plain, none⟩,
    ⟨none, .store (.tmp 4) (.tmp 46) 11, none⟩] [4])
  .ret)))⟩
-- (*spec.l1Rd).pick
def c89 : CFn := ⟨99, [.tmp 4],
  (.seq (.region [
    ⟨some 4, .mov (.const (.int .i64 0)), none⟩] [0, 1])
  (.seq (.region [
    ⟨some 7, .mov (.tmp 0), none⟩,
    ⟨some 8, .mov (.tmp 0), none⟩,
    ⟨some 9, .nilck (.tmp 8), none⟩,
    ⟨some 10, .faddr (.tmp 9) 1, none⟩,
    ⟨some 11, .load (.tmp 10) 1 false .plain, none⟩,
    ⟨some 12, .bin .add (.tmp 11) (.const (.int .i64 1)), none⟩,
    ⟨some 13, .nilck (.tmp 7), none⟩,
    ⟨some 14, .faddr (.tmp 13) 1, none⟩,
    ⟨none, .store (.tmp 14) (.tmp 12) 1, none⟩] [0, 1])
  (.seq (.seq (.region [
    ⟨some 15, .mov (.tmp 1), none⟩,
    ⟨some 16, .bin .lss (.tmp 15) (.const (.int .i64 1)), none⟩,
    ⟨some 17, .mov (.tmp 16), none⟩,
    ⟨some 18, .mov (.tmp 0), some (17, false)⟩,
    ⟨some 19, .nilck (.tmp 18), some (17, false)⟩,
    ⟨some 20, .faddr (.tmp 19) 0, some (17, false)⟩,
    ⟨some 21, .load (.tmp 20) 1 false .plain, some (17, false)⟩,
    ⟨some 22, .len false (.tmp 21), some (17, false)⟩,
    ⟨some 23, .bin .eql (.tmp 22) (.const (.int .i64 0)), some (17, false)⟩,
    ⟨some 24, .pick (.tmp 17) (.const (.bool true)) (.tmp 23), none⟩] [0, 1, 24])
  (.cond (.tmp 24)
    (.seq (.region [
      ⟨some 4, .mov (.const (.int .i64 0)), none⟩] [4])
    .ret)
    .skip))
  (.seq (.region [
    ⟨some 25, .mov (.tmp 0), none⟩,
    ⟨some 26, .nilck (.tmp 25), none⟩,
    ⟨some 27, .faddr (.tmp 26) 1, none⟩,
    ⟨some 28, .load (.tmp 27) 1 false .plain, none⟩,
    ⟨some 29, .bin .sub (.tmp 28) (.const (.int .i64 1)), none⟩,
    ⟨some 5, .mov (.tmp 29), none⟩] [0, 1, 5])
  (.seq (.seq (.region [
    ⟨some 30, .mov (.tmp 5), none⟩,
    ⟨some 31, .mov (.tmp 0), none⟩,
    ⟨some 32, .nilck (.tmp 31), none⟩,
    ⟨some 33, .faddr (.tmp 32) 0, none⟩,
    ⟨some 34, .load (.tmp 33) 1 false .plain, none⟩,
    ⟨some 35, .len false (.tmp 34), none⟩,
    ⟨some 36, .bin .lss (.tmp 30) (.tmp 35), none⟩] [0, 1, 5, 36])
  (.cond (.tmp 36)
    (.seq (.region [
      ⟨some 37, .mov (.tmp 0), none⟩,
      ⟨some 38, .nilck (.tmp 37), none⟩,
      ⟨some 39, .faddr (.tmp 38) 0, none⟩,
      ⟨some 40, .load (.tmp 39) 1 false .plain, none⟩,
      ⟨some 41, .mov (.tmp 5), none⟩,
      ⟨some 42, .iaddr 1 (.tmp 40) (.tmp 41), none⟩,
      ⟨some 43, .load (.tmp 42) 1 false .plain, none⟩,
      ⟨some 44, .conv .i64 (.tmp 43), none⟩,
      ⟨some 45, .mov (.tmp 1), none⟩,
      ⟨some 46, .bin .rem (.tmp 44) (.tmp 45), none⟩,
      ⟨some 4, .mov (.tmp 46), none⟩] [4])
    .ret)
    .skip))
  (.seq (.quiet [
    ⟨some 47, .mov (.tmp 0), none⟩,
    ⟨some 48, .nilck (.tmp 47), none⟩,
    ⟨some 49, .faddr (.tmp 48) 0, none⟩,
    ⟨some 50, .load (.tmp 49) 1 false .plain, none⟩,
    ⟨some 51, .mov (.tmp 5), none⟩,
    ⟨some 52, .mov (.tmp 0), none⟩,
    ⟨some 53, .nilck (.tmp 52), none⟩,
    ⟨some 54, .faddr (.tmp 53) 0, none⟩,
    ⟨some 55, .load (.tmp 54) 1 false .plain, none⟩,
    ⟨some 56, .len false (.tmp 55), none⟩,
    ⟨some 57, .bin .rem (.tmp 51) (.tmp 56), none⟩,
    ⟨some 58, .iaddr 1 (.tmp 50) (.tmp 57), none⟩,
    ⟨some 59, .load (.tmp 58) 1 false .plain, none⟩,
    ⟨some 60, .conv .i64 (.tmp 59), none⟩,
    ⟨some 61, .bin .mul (.tmp 60) (.const (.int .i64 131)), none⟩,
    ⟨some 62, .mov (.tmp 0), none⟩,
    ⟨some 63, .nilck (.tmp 62), none⟩,
    ⟨some 64, .faddr (.tmp 63) 0, none⟩,
    ⟨some 65, .load (.tmp 64) 1 false .plain, none⟩,
    ⟨some 66, .mov (.tmp 5), none⟩,
    ⟨some 67, .bin .mul (.tmp 66) (.const (.int .i64 7)), none⟩,
    ⟨some 68, .bin .add (.tmp 67) (.const (.int .i64 3)), none⟩,
    ⟨some 69, .mov (.tmp 0), none⟩,
    ⟨some 70, .nilck (.tmp 69), none⟩,
    ⟨some 71, .faddr (.tmp 70) 0, none⟩,
    ⟨some 72, .load (.tmp 71) 1 false .plain, none⟩,
    ⟨some 73, .len false (.tmp 72), none⟩,
    ⟨some 74, .bin .rem (.tmp 68) (.tmp 73), none⟩,
    ⟨some 75, .iaddr 1 (.tmp 65) (.tmp 74), none⟩,
    ⟨some 76, .load (.tmp 75) 1 false .plain, none⟩,
    ⟨some 77, .conv .i64 (.tmp 76), none⟩,
    ⟨some 78, .bin .mul (.tmp 77) (.const (.int .i64 1117)), none⟩,
    ⟨some 79, .bin .add (.tmp 61) (.tmp 78), none⟩,
    ⟨some 80, .mov (.tmp 5), none⟩,
    ⟨some 81, .bin .mul (.tmp 80) (.const (.int .i64 29)), none⟩,
    ⟨some 82, .bin .add (.tmp 79) (.tmp 81), none⟩,
    ⟨some 83, .mov (.tmp 5), none⟩,
    ⟨some 84, .mov (.tmp 0), none⟩,
    ⟨some 85, .nilck (.tmp 84), none⟩,
    ⟨some 86, .faddr (.tmp 85) 0, none⟩,
    ⟨some 87, .load (.tmp 86) 1 false .plain, none⟩,
    ⟨some 88, .len false (.tmp 87), none⟩,
    ⟨some 89, .bin .quo (.tmp 83) (.tmp 88), none⟩,
    ⟨some 90, .bin .mul (.tmp 89) (.const (.int .i64 53)), none⟩,
    ⟨some 91, .bin .add (.tmp 82) (.tmp 90), none⟩,
    ⟨some 6, .mov (.tmp 91), none⟩] [1, 6])
  (.seq (.region [
    ⟨some 92, .mov (.tmp 6), none⟩,
    ⟨some 93, .mov (.tmp 6), none⟩,
    ⟨some 94, .bin .quo (.tmp 93) (.const (.int .i64 64)), none⟩,
    ⟨some 95, .bin .xor (.tmp 92) (.tmp 94), none⟩,
    ⟨some 6, .mov (.tmp 95), none⟩] [1, 6])
  (.seq (.region [
    ⟨some 96, .mov (.tmp 6), none⟩,
    ⟨some 97, .mov (.tmp 1), none⟩,
    ⟨some 98, .bin .rem (.tmp 96) (.tmp 97), none⟩,
    ⟨some 4, .mov (.tmp 98), none⟩] [4])
  .ret))))))))⟩
-- spec.l2Draw
def c90 : CFn := ⟨38, [.cell 6 11 true],
  (.seq (.region [
    ⟨some 6, .alloc [.str ⟨#[]⟩, .int .i64 0, .str ⟨#[]⟩, .int .i64 0, .int .i64 0, .int .i64 0, .int .i64 0, .int .i64 0, .int .i64 0, .int .i64 0, .int .i64 0], none⟩] [0, 1, 2, 6])
  (.seq (.region [
    ⟨some 8, .mov (.tmp 0), none⟩,
    ⟨some 9, .mov (.tmp 1), none⟩,
    ⟨some 10, .call 87 [true, false] [.tmp 8, .tmp 9], none⟩,
    ⟨some 11, .mov (.tmp 0), none⟩,
    ⟨some 12, .call 89 [true, false] [.tmp 11, .const (.int .i64 6)], none⟩,
    ⟨some 13, .bin .add (.const (.int .i64 1)) (.tmp 12), none⟩,
    ⟨some 14, .mov (.tmp 0), none⟩,
    ⟨some 15, .call 89 [true, false] [.tmp 14, .const (.int .i64 5)], none⟩,
    ⟨some 16, .mov (.tmp 0), none⟩,
    ⟨some 17, .call 89 [true, false] [.tmp 16, .const (.int .i64 6)], none⟩,
    ⟨some 18, .build [.str ⟨#[]⟩, .int .i64 0, .str ⟨#[]⟩, .int .i64 0, .int .i64 0, .int .i64 0, .int .i64 0, .int .i64 0, .int .i64 0, .int .i64 0, .int .i64 0] [(0, 7, .tmp 10), (7, 1, .tmp 13), (8, 1, .tmp 15), (9, 1, .tmp 17)], none⟩,
    ⟨some 7, .alloc [.str ⟨#[]⟩, .int .i64 0, .str ⟨#[]⟩, .int .i64 0, .int .i64 0, .int .i64 0, .int .i64 0, .int .i64 0, .int .i64 0, .int .i64 0, .int .i64 0], none⟩,
    ⟨none, .store (.tmp 7) (.tmp 18) 11, none⟩] [0, 2, 6, 7])
  (.seq (.seq (.region [
    ⟨some 19, .faddr (.tmp 7) 0, none⟩,
    ⟨some 20, .faddr (.tmp 19) 2, none⟩,
    ⟨some 21, .load (.tmp 20) 1 false .plain, none⟩,
    ⟨some 22, .bin .neq (.tmp 21) (.const (.str ⟨#[]⟩)), none⟩] [0, 2, 6, 7, 22])
  (.cond (.tmp 22)
    (.seq (.region [
      ⟨some 23, .mov (.tmp 2), none⟩,
      ⟨some 24, .mov (.tmp 0), none⟩,
      ⟨some 25, .call 89 [true, false] [.tmp 24, .const (.int .i64 14)], none⟩,
      ⟨some 26, .bin .add (.tmp 23) (.tmp 25), none⟩,
      ⟨some 27, .bin .sub (.tmp 26) (.const (.int .i64 4)), none⟩,
      ⟨some 28, .faddr (.tmp 7) 10, none⟩,
      ⟨none, .store (.tmp 28) (.tmp 27) 1, none⟩] [6, 7])
    (.seq (.region [
      ⟨some 29, .faddr (.tmp 7) 10, none⟩,
      ⟨some 30, .load (.tmp 29) 1 false .plain, none⟩,
      ⟨some 31, .bin .lss (.tmp 30) (.const (.int .i64 0)), none⟩] [6, 7, 31])
    (.cond (.tmp 31)
      (.region [
        ⟨some 32, .faddr (.tmp 7) 10, none⟩,
        ⟨none, .store (.tmp 32) (.const (.int .i64 0)) 1, none⟩] [6, 7])
      .skip)))
    .skip))
  (.seq (.seq (.region [
    ⟨some 33, .faddr (.tmp 7) 7, none⟩,
    ⟨some 34, .load (.tmp 33) 1 false .plain, none⟩,
    ⟨some 35, .bin .eql (.tmp 34) (.const (.int .i64 2)), none⟩] [6, 7, 35])
  (.cond (.tmp 35)
    (.region [
      ⟨some 36, .faddr (.tmp 7) 8, none⟩,
      ⟨none, .store (.tmp 36) (.const (.int .i64 0)) 1, none⟩] [6, 7])
    .skip))
  (.seq (.region [
    ⟨some 37, .load (.tmp 7) 11 true .plain, none⟩,
    ⟨none, .store (.tmp 6) (.tmp 37) 11, none⟩] [6])
  .ret)))))⟩
-- spec.l1Open
def c91 : CFn := ⟨11, [.tmp 2],
  (.seq (.region [
    ⟨some 2, .mov (.const (.any)), none⟩] [0])
  (.seq (.seq (.region [
    ⟨some 3, .mov (.tmp 0), none⟩,
    ⟨some 4, .len false (.tmp 3), none⟩,
    ⟨some 5, .bin .gtr (.tmp 4) (.const (.int .i64 2000)), none⟩] [0, 5])
  (.cond (.tmp 5)
    (.region [
      ⟨some 6, .mov (.tmp 0), none⟩,
      ⟨some 7, .slice 1 (.tmp 6) none (some (.const (.int .i64 2000))), none⟩,
      ⟨some 0, .mov (.tmp 7), none⟩] [0])
    .skip))
  (.seq (.region [
    ⟨some 8, .mov (.tmp 0), none⟩,
    ⟨some 9, .build [.sl .own 1 [], .int .i64 0] [(0, 1, .tmp 8)], none⟩,
    ⟨some 10, .box (.tmp 9), none⟩,
    ⟨some 2, .mov (.tmp 10), none⟩] [2])
  .ret)))⟩
-- spec.l2Leased
def c95 : CFn := ⟨16, [.tmp 4],
  (.seq (.region [
    ⟨some 2, .box (.tmp 0), none⟩,
    ⟨some 4, .mov (.const (.bool false)), none⟩] [1, 2])
  (.seq (.region [
    ⟨some 5, .faddr (.tmp 2) 0, none⟩,
    ⟨some 6, .faddr (.tmp 5) 2, none⟩,
    ⟨some 7, .load (.tmp 6) 1 false .plain, none⟩,
    ⟨some 8, .bin .eql (.tmp 7) (.const (.str ⟨#[]⟩)), none⟩,
    ⟨some 9, .mov (.tmp 8), none⟩,
    ⟨some 10, .faddr (.tmp 2) 10, some (9, false)⟩,
    ⟨some 11, .load (.tmp 10) 1 false .plain, some (9, false)⟩,
    ⟨some 12, .mov (.tmp 1), some (9, false)⟩,
    ⟨some 13, .bin .add (.tmp 12) (.const (.int .i64 4)), some (9, false)⟩,
    ⟨some 14, .bin .geq (.tmp 11) (.tmp 13), some (9, false)⟩,
    ⟨some 15, .pick (.tmp 9) (.const (.bool true)) (.tmp 14), none⟩,
    ⟨some 4, .mov (.tmp 15), none⟩] [4])
  .ret))⟩
-- spec.l1HoldOk
def c100 : CFn := ⟨9, [.tmp 2],
  (.seq (.region [
    ⟨some 2, .mov (.const (.bool false)), none⟩] [0])
  (.seq (.region [
    ⟨some 3, .mov (.tmp 0), none⟩,
    ⟨some 4, .call 101 [false] [.tmp 3], none⟩,
    ⟨some 5, .mov (.tmp 4), none⟩,
    ⟨some 6, .mov (.tmp 0), some (5, true)⟩,
    ⟨some 7, .bin .neq (.tmp 6) (.const (.str ⟨#[42]⟩)), some (5, true)⟩,
    ⟨some 8, .pick (.tmp 5) (.tmp 7) (.const (.bool false)), none⟩,
    ⟨some 2, .mov (.tmp 8), none⟩] [2])
  .ret))⟩
-- spec.l1NameOk
def c101b0 : CCode := (.seq (.seq (.region [
    ⟨some 8, .mov (.tmp 3), none⟩,
    ⟨some 9, .mov (.tmp 0), none⟩,
    ⟨some 10, .len true (.tmp 9), none⟩,
    ⟨some 11, .bin .lss (.tmp 8) (.tmp 10), none⟩] [0, 3, 11])
  (.cond (.tmp 11)
    .skip
    (.exit 0)))
  (.seq (.block 1
    (.seq (.region [
      ⟨some 14, .mov (.tmp 0), none⟩,
      ⟨some 15, .mov (.tmp 3), none⟩,
      ⟨some 16, .sidx (.tmp 14) (.tmp 15), none⟩,
      ⟨some 17, .bin .lss (.tmp 16) (.const (.int .u8 33)), none⟩,
      ⟨some 18, .mov (.tmp 17), none⟩,
      ⟨some 19, .mov (.tmp 0), some (18, false)⟩,
      ⟨some 20, .mov (.tmp 3), some (18, false)⟩,
      ⟨some 21, .sidx (.tmp 19) (.tmp 20), some (18, false)⟩,
      ⟨some 22, .bin .gtr (.tmp 21) (.const (.int .u8 126)), some (18, false)⟩,
      ⟨some 23, .pick (.tmp 18) (.const (.bool true)) (.tmp 22), none⟩] [0, 3, 23])
    (.cond (.tmp 23)
      (.seq (.region [
        ⟨some 2, .mov (.const (.bool false)), none⟩] [2])
      .ret)
      .skip)))
  (.region [
    ⟨some 12, .mov (.tmp 3), none⟩,
    ⟨some 13, .bin .add (.tmp 12) (.const (.int .i64 1)), none⟩,
    ⟨some 3, .mov (.tmp 13), none⟩] [0, 3])))
def c101 : CFn := ⟨24, [.tmp 2],
  (.seq (.region [
    ⟨some 2, .mov (.const (.bool false)), none⟩] [0])
  (.seq (.seq (.region [
    ⟨some 4, .mov (.tmp 0), none⟩,
    ⟨some 5, .len true (.tmp 4), none⟩,
    ⟨some 6, .call 102 [false, false, false] [.tmp 5, .const (.int .i64 1), .const (.int .i64 20)], none⟩,
    ⟨some 7, .un .not (.tmp 6), none⟩] [0, 7])
  (.cond (.tmp 7)
    (.seq (.region [
      ⟨some 2, .mov (.const (.bool false)), none⟩] [2])
    .ret)
    .skip))
  (.seq (.seq (.region [
    ⟨some 3, .mov (.const (.int .i64 0)), none⟩] [0, 3])
  (.block 0
    (.loop [0, 3] c101b0)))
  (.seq (.region [
    ⟨some 2, .mov (.const (.bool true)), none⟩] [2])
  .ret))))⟩
-- spec.l1In
def c102 : CFn := ⟨15, [.tmp 6],
  (.seq (.region [
    ⟨some 6, .mov (.const (.bool false)), none⟩] [0, 1, 2])
  (.seq (.region [
    ⟨some 7, .mov (.tmp 0), none⟩,
    ⟨some 8, .mov (.tmp 1), none⟩,
    ⟨some 9, .bin .geq (.tmp 7) (.tmp 8), none⟩,
    ⟨some 10, .mov (.tmp 9), none⟩,
    ⟨some 11, .mov (.tmp 0), some (10, true)⟩,
    ⟨some 12, .mov (.tmp 2), some (10, true)⟩,
    ⟨some 13, .bin .leq (.tmp 11) (.tmp 12), some (10, true)⟩,
    ⟨some 14, .pick (.tmp 10) (.tmp 13) (.const (.bool false)), none⟩,
    ⟨some 6, .mov (.tmp 14), none⟩] [6])
  .ret))⟩
-- impl.isName
def c105b0 : CCode := (.seq (.region [
    ⟨some 15, .bin .lss (.tmp 14) (.tmp 13), none⟩] [0, 13, 14, 15])
  (.seq (.cond (.tmp 15)
    .skip
    (.exit 0))
  (.seq (.block 1
    (.seq (.region [
      ⟨some 16, .mov (.tmp 14), none⟩,
      ⟨some 3, .mov (.tmp 16), none⟩] [0, 3, 13, 14])
    (.seq (.region [
      ⟨some 17, .mov (.tmp 0), none⟩,
      ⟨some 18, .mov (.tmp 3), none⟩,
      ⟨some 19, .sidx (.tmp 17) (.tmp 18), none⟩,
      ⟨some 20, .bin .lss (.tmp 19) (.const (.int .u8 33)), none⟩,
      ⟨some 21, .mov (.tmp 20), none⟩,
      ⟨some 22, .mov (.tmp 0), some (21, false)⟩,
      ⟨some 23, .mov (.tmp 3), some (21, false)⟩,
      ⟨some 24, .sidx (.tmp 22) (.tmp 23), some (21, false)⟩,
      ⟨some 25, .bin .gtr (.tmp 24) (.const (.int .u8 126)), some (21, false)⟩,
      ⟨some 26, .pick (.tmp 21) (.const (.bool true)) (.tmp 25), none⟩] [0, 13, 14, 26])
    (.cond (.tmp 26)
      (.seq (.region [
        ⟨some 2, .mov (.const (.bool false)), none⟩] [2])
      .ret)
      .skip))))
  (.region [
    ⟨some 27, .bin .add (.tmp 14) (.const (.int .i64 1)), none⟩,
    ⟨some 14, .mov (.tmp 27), none⟩] [0, 13, 14]))))
def c105 : CFn := ⟨28, [.tmp 2],
  (.seq (.region [
    ⟨some 2, .mov (.const (.bool false)), none⟩] [0])
  (.seq (.seq (.region [
    ⟨some 4, .mov (.tmp 0), none⟩,
    ⟨some 5, .len true (.tmp 4), none⟩,
    ⟨some 6, .bin .lss (.tmp 5) (.const (.int .i64 1)), none⟩,
    ⟨some 7, .mov (.tmp 6), none⟩,
    ⟨some 8, .mov (.tmp 0), some (7, false)⟩,
    ⟨some 9, .len true (.tmp 8), some (7, false)⟩,
    ⟨some 10, .bin .gtr (.tmp 9) (.const (.int .i64 20)), some (7, false)⟩,
    ⟨some 11, .pick (.tmp 7) (.const (.bool true)) (.tmp 10), none⟩] [0, 11])
  (.cond (.tmp 11)
    (.seq (.region [
      ⟨some 2, .mov (.const (.bool false)), none⟩] [2])
    .ret)
    .skip))
  (.seq (.seq (.region [
    ⟨some 12, .mov (.tmp 0), none⟩,
    ⟨some 13, .len true (.tmp 12), none⟩,
    ⟨some 14, .mov (.const (.int .i64 0)), none⟩] [0, 13, 14])
  (.block 0
    (.loop [0, 13, 14] c105b0)))
  (.seq (.region [
    ⟨some 2, .mov (.const (.bool true)), none⟩] [2])
  .ret))))⟩
-- impl.isHold
def c106 : CFn := ⟨9, [.tmp 2],
  (.seq (.region [
    ⟨some 2, .mov (.const (.bool false)), none⟩] [0])
  (.seq (.region [
    ⟨some 3, .mov (.tmp 0), none⟩,
    ⟨some 4, .call 105 [false] [.tmp 3], none⟩,
    ⟨some 5, .mov (.tmp 4), none⟩,
    ⟨some 6, .mov (.tmp 0), some (5, true)⟩,
    ⟨some 7, .bin .neq (.tmp 6) (.const (.str ⟨#[42]⟩)), some (5, true)⟩,
    ⟨some 8, .pick (.tmp 5) (.tmp 7) (.const (.bool false)), none⟩,
    ⟨some 2, .mov (.tmp 8), none⟩] [2])
  .ret))⟩
-- laws.wWants
def c118b0 : CCode := (.seq (.seq (.region [
    ⟨some 11, .mov (.tmp 5), none⟩,
    ⟨some 12, .mov (.tmp 0), none⟩,
    ⟨some 13, .len false (.tmp 12), none⟩,
    ⟨some 14, .bin .lss (.tmp 11) (.tmp 13), none⟩] [0, 1, 5, 14])
  (.cond (.tmp 14)
    .skip
    (.exit 0)))
  (.seq (.block 1
    (.seq (.quiet [
      ⟨some 17, .mov (.tmp 0), none⟩,
      ⟨some 18, .mov (.tmp 5), none⟩,
      ⟨some 19, .iaddr 7 (.tmp 17) (.tmp 18), none⟩,
      ⟨some 20, .load (.tmp 19) 7 true .plain, none⟩,
      ⟨some 21, .mov (.tmp 1), none⟩,
      ⟨some 22, .mov (.tmp 5), none⟩,
      ⟨some 23, .iaddr 7 (.tmp 21) (.tmp 22), none⟩,
      ⟨some 24, .load (.tmp 23) 7 true .plain, none⟩,
      ⟨some 25, .eqs true [.s, .i, .s, .i, .i, .i, .i] (.tmp 20) (.tmp 24), none⟩] [0, 1, 5, 25])
    (.cond (.tmp 25)
      (.seq (.region [
        ⟨some 4, .mov (.const (.bool false)), none⟩] [4])
      .ret)
      .skip)))
  (.region [
    ⟨some 15, .mov (.tmp 5), none⟩,
    ⟨some 16, .bin .add (.tmp 15) (.const (.int .i64 1)), none⟩,
    ⟨some 5, .mov (.tmp 16), none⟩] [0, 1, 5])))
def c118 : CFn := ⟨26, [.tmp 4],
  (.seq (.region [
    ⟨some 4, .mov (.const (.bool false)), none⟩] [0, 1])
  (.seq (.seq (.region [
    ⟨some 6, .mov (.tmp 0), none⟩,
    ⟨some 7, .len false (.tmp 6), none⟩,
    ⟨some 8, .mov (.tmp 1), none⟩,
    ⟨some 9, .len false (.tmp 8), none⟩,
    ⟨some 10, .bin .neq (.tmp 7) (.tmp 9), none⟩] [0, 1, 10])
  (.cond (.tmp 10)
    (.seq (.region [
      ⟨some 4, .mov (.const (.bool false)), none⟩] [4])
    .ret)
    .skip))
  (.seq (.seq (.region [
    ⟨some 5, .mov (.const (.int .i64 0)), none⟩] [0, 1, 5])
  (.block 0
    (.loop [0, 1, 5] c118b0)))
  (.seq (.region [
    ⟨some 4, .mov (.const (.bool true)), none⟩] [4])
  .ret))))⟩
-- spec.l7Dec
def c140 : CFn := ⟨20, [.tmp 2],
  (.seq (.region [
    ⟨some 2, .mov (.const (.str ⟨#[]⟩)), none⟩] [0])
  (.seq (.seq (.region [
    ⟨some 3, .mov (.tmp 0), none⟩,
    ⟨some 4, .bin .lss (.tmp 3) (.const (.int .i64 10)), none⟩] [0, 4])
  (.cond (.tmp 4)
    (.seq (.region [
      ⟨some 5, .mov (.tmp 0), none⟩,
      ⟨some 6, .bin .add (.const (.int .i64 48)) (.tmp 5), none⟩,
      ⟨some 7, .conv .u8 (.tmp 6), none⟩,
      ⟨some 8, .bslice 1 [.int .u8 0] 1 [(0, .tmp 7)], none⟩,
      ⟨some 9, .toStr (.tmp 8), none⟩,
      ⟨some 2, .mov (.tmp 9), none⟩] [2])
    .ret)
    .skip))
  (.seq (.loud [
    ⟨some 10, .mov (.tmp 0), none⟩,
    ⟨some 11, .bin .quo (.tmp 10) (.const (.int .i64 10)), none⟩,
    ⟨some 12, .call 140 [false] [.tmp 11], none⟩,
    ⟨some 13, .mov (.tmp 0), none⟩,
    ⟨some 14, .bin .rem (.tmp 13) (.const (.int .i64 10)), none⟩,
    ⟨some 15, .bin .add (.const (.int .i64 48)) (.tmp 14), none⟩,
    ⟨some 16, .conv .u8 (.tmp 15), none⟩,
    ⟨some 17, .bslice 1 [.int .u8 0] 1 [(0, .tmp 16)], none⟩,
    ⟨some 18, .toStr (.tmp 17), none⟩,
    ⟨some 19, .bin .add (.tmp 12) (.tmp 18), none⟩,
    ⟨some 2, .mov (.tmp 19), none⟩] [0, 1, 3, 0, 8, 24, 56, 120, 248, 511, 1023] [2])
  .ret)))⟩
-- laws.wParcel
def c143 : CFn := ⟨52, [.tmp 4],
  (.seq (.region [
    ⟨some 2, .box (.tmp 0), none⟩,
    ⟨some 3, .box (.tmp 1), none⟩,
    ⟨some 4, .mov (.const (.bool false)), none⟩] [2, 3])
  (.seq (.region [
    ⟨some 5, .faddr (.tmp 2) 0, none⟩,
    ⟨some 6, .load (.tmp 5) 1 false .plain, none⟩,
    ⟨some 7, .faddr (.tmp 3) 0, none⟩,
    ⟨some 8, .load (.tmp 7) 1 false .plain, none⟩,
    ⟨some 9, .bin .eql (.tmp 6) (.tmp 8), none⟩,
    ⟨some 10, .mov (.tmp 9), none⟩,
    ⟨some 11, .faddr (.tmp 2) 1, some (10, true)⟩,
    ⟨some 12, .load (.tmp 11) 1 false .plain, some (10, true)⟩,
    ⟨some 13, .faddr (.tmp 3) 1, some (10, true)⟩,
    ⟨some 14, .load (.tmp 13) 1 false .plain, some (10, true)⟩,
    ⟨some 15, .bin .eql (.tmp 12) (.tmp 14), some (10, true)⟩,
    ⟨some 16, .pick (.tmp 10) (.tmp 15) (.const (.bool false)), none⟩,
    ⟨some 17, .mov (.tmp 16), none⟩,
    ⟨some 18, .faddr (.tmp 2) 2, some (17, true)⟩,
    ⟨some 19, .load (.tmp 18) 1 false .plain, some (17, true)⟩,
    ⟨some 20, .faddr (.tmp 3) 2, some (17, true)⟩,
    ⟨some 21, .load (.tmp 20) 1 false .plain, some (17, true)⟩,
    ⟨some 22, .bin .eql (.tmp 19) (.tmp 21), some (17, true)⟩,
    ⟨some 23, .pick (.tmp 17) (.tmp 22) (.const (.bool false)), none⟩,
    ⟨some 24, .mov (.tmp 23), none⟩,
    ⟨some 25, .faddr (.tmp 2) 3, some (24, true)⟩,
    ⟨some 26, .load (.tmp 25) 1 false .plain, some (24, true)⟩,
    ⟨some 27, .faddr (.tmp 3) 3, some (24, true)⟩,
    ⟨some 28, .load (.tmp 27) 1 false .plain, some (24, true)⟩,
    ⟨some 29, .call 118 [false, false] [.tmp 26, .tmp 28], some (24, true)⟩,
    ⟨some 30, .pick (.tmp 24) (.tmp 29) (.const (.bool false)), none⟩,
    ⟨some 31, .mov (.tmp 30), none⟩,
    ⟨some 32, .faddr (.tmp 2) 4, some (31, true)⟩,
    ⟨some 33, .load (.tmp 32) 1 false .plain, some (31, true)⟩,
    ⟨some 34, .faddr (.tmp 3) 4, some (31, true)⟩,
    ⟨some 35, .load (.tmp 34) 1 false .plain, some (31, true)⟩,
    ⟨some 36, .bin .eql (.tmp 33) (.tmp 35), some (31, true)⟩,
    ⟨some 37, .pick (.tmp 31) (.tmp 36) (.const (.bool false)), none⟩,
    ⟨some 38, .mov (.tmp 37), none⟩,
    ⟨some 39, .faddr (.tmp 2) 5, some (38, true)⟩,
    ⟨some 40, .load (.tmp 39) 1 false .plain, some (38, true)⟩,
    ⟨some 41, .faddr (.tmp 3) 5, some (38, true)⟩,
    ⟨some 42, .load (.tmp 41) 1 false .plain, some (38, true)⟩,
    ⟨some 43, .bin .eql (.tmp 40) (.tmp 42), some (38, true)⟩,
    ⟨some 44, .pick (.tmp 38) (.tmp 43) (.const (.bool false)), none⟩,
    ⟨some 45, .mov (.tmp 44), none⟩,
    ⟨some 46, .faddr (.tmp 2) 6, some (45, true)⟩,
    ⟨some 47, .load (.tmp 46) 1 false .plain, some (45, true)⟩,
    ⟨some 48, .faddr (.tmp 3) 6, some (45, true)⟩,
    ⟨some 49, .load (.tmp 48) 1 false .plain, some (45, true)⟩,
    ⟨some 50, .bin .eql (.tmp 47) (.tmp 49), some (45, true)⟩,
    ⟨some 51, .pick (.tmp 45) (.tmp 50) (.const (.bool false)), none⟩,
    ⟨some 4, .mov (.tmp 51), none⟩] [4])
  .ret))⟩
-- spec.l1SpoilWant
def c144 : CFn := ⟨66, [.cell 4 7 true],
  (.seq (.region [
    ⟨some 3, .box (.tmp 1), none⟩,
    ⟨some 4, .alloc [.str ⟨#[]⟩, .int .i64 0, .str ⟨#[]⟩, .int .i64 0, .int .i64 0, .int .i64 0, .int .i64 0], none⟩] [0, 3, 4])
  (.seq (.seq (.region [
    ⟨some 5, .mov (.tmp 0), none⟩,
    ⟨some 6, .call 89 [true, false] [.tmp 5, .const (.int .i64 7)], none⟩] [0, 3, 4, 6])
  (.block 0
    (.seq (.region [
      ⟨some 14, .bin .eql (.tmp 6) (.const (.int .i64 0)), none⟩,
      ⟨some 13, .mov (.tmp 14), none⟩] [0, 3, 4, 6, 13])
    (.cond (.tmp 13)
      (.region [
        ⟨some 15, .mov (.tmp 0), none⟩,
        ⟨some 16, .call 89 [true, false] [.tmp 15, .const (.int .i64 2)], none⟩,
        ⟨some 17, .bin .add (.const (.int .i64 20)) (.tmp 16), none⟩,
        ⟨some 18, .call 160 [false, false] [.const (.str ⟨#[110]⟩), .tmp 17], none⟩,
        ⟨some 19, .bslice 1 [.str ⟨#[]⟩] 3 [(0, .const (.str ⟨#[]⟩)), (1, .const (.str ⟨#[120, 32, 121]⟩)), (2, .tmp 18)], none⟩,
        ⟨some 20, .mov (.tmp 0), none⟩,
        ⟨some 21, .call 89 [true, false] [.tmp 20, .const (.int .i64 3)], none⟩,
        ⟨some 22, .iaddr 1 (.tmp 19) (.tmp 21), none⟩,
        ⟨some 23, .load (.tmp 22) 1 false .plain, none⟩,
        ⟨some 24, .faddr (.tmp 3) 0, none⟩,
        ⟨none, .store (.tmp 24) (.tmp 23) 1, none⟩] [3, 4])
      (.seq (.region [
        ⟨some 26, .bin .eql (.tmp 6) (.const (.int .i64 1)), none⟩,
        ⟨some 25, .mov (.tmp 26), none⟩] [0, 3, 4, 6, 25])
      (.cond (.tmp 25)
        (.region [
          ⟨some 27, .bslice 1 [.int .i64 0] 3 [(0, .const (.int .i64 0)), (1, .const (.int .i64 1000000)), (2, .const (.int .i64 1000001))], none⟩,
          ⟨some 28, .mov (.tmp 0), none⟩,
          ⟨some 29, .call 89 [true, false] [.tmp 28, .const (.int .i64 3)], none⟩,
          ⟨some 30, .iaddr 1 (.tmp 27) (.tmp 29), none⟩,
          ⟨some 31, .load (.tmp 30) 1 false .plain, none⟩,
          ⟨some 32, .faddr (.tmp 3) 1, none⟩,
          ⟨none, .store (.tmp 32) (.tmp 31) 1, none⟩] [3, 4])
        (.seq (.region [
          ⟨some 34, .bin .eql (.tmp 6) (.const (.int .i64 2)), none⟩,
          ⟨some 33, .mov (.tmp 34), none⟩] [0, 3, 4, 6, 33])
        (.cond (.tmp 33)
          (.region [
            ⟨some 35, .bslice 1 [.str ⟨#[]⟩] 3 [(0, .const (.str ⟨#[120, 32, 121]⟩)), (1, .const (.str ⟨#[42]⟩)), (2, .const (.str ⟨#[118, 111, 108]⟩))], none⟩,
            ⟨some 36, .mov (.tmp 0), none⟩,
            ⟨some 37, .call 89 [true, false] [.tmp 36, .const (.int .i64 3)], none⟩,
            ⟨some 38, .iaddr 1 (.tmp 35) (.tmp 37), none⟩,
            ⟨some 39, .load (.tmp 38) 1 false .plain, none⟩,
            ⟨some 40, .faddr (.tmp 3) 2, none⟩,
            ⟨none, .store (.tmp 40) (.tmp 39) 1, none⟩] [3, 4])
          (.seq (.region [
            ⟨some 42, .bin .eql (.tmp 6) (.const (.int .i64 3)), none⟩,
            ⟨some 41, .mov (.tmp 42), none⟩] [0, 3, 4, 6, 41])
          (.cond (.tmp 41)
            (.region [
              ⟨some 43, .bslice 1 [.int .i64 0] 3 [(0, .const (.int .i64 (-1))), (1, .const (.int .i64 100)), (2, .const (.int .i64 101))], none⟩,
              ⟨some 44, .mov (.tmp 0), none⟩,
              ⟨some 45, .call 89 [true, false] [.tmp 44, .const (.int .i64 3)], none⟩,
              ⟨some 46, .iaddr 1 (.tmp 43) (.tmp 45), none⟩,
              ⟨some 47, .load (.tmp 46) 1 false .plain, none⟩,
              ⟨some 48, .faddr (.tmp 3) 3, none⟩,
              ⟨none, .store (.tmp 48) (.tmp 47) 1, none⟩] [3, 4])
            (.seq (.region [
              ⟨some 50, .bin .eql (.tmp 6) (.const (.int .i64 4)), none⟩,
              ⟨some 49, .mov (.tmp 50), none⟩] [0, 3, 4, 6, 49])
            (.cond (.tmp 49)
              (.region [
                ⟨some 51, .bslice 1 [.int .i64 0] 3 [(0, .const (.int .i64 (-1))), (1, .const (.int .i64 100)), (2, .const (.int .i64 101))], none⟩,
                ⟨some 52, .mov (.tmp 0), none⟩,
                ⟨some 53, .call 89 [true, false] [.tmp 52, .const (.int .i64 3)], none⟩,
                ⟨some 54, .iaddr 1 (.tmp 51) (.tmp 53), none⟩,
                ⟨some 55, .load (.tmp 54) 1 false .plain, none⟩,
                ⟨some 56, .faddr (.tmp 3) 4, none⟩,
                ⟨none, .store (.tmp 56) (.tmp 55) 1, none⟩] [3, 4])
              (.seq (.region [
                ⟨some 58, .bin .eql (.tmp 6) (.const (.int .i64 5)), none⟩,
                ⟨some 57, .mov (.tmp 58), none⟩] [0, 3, 4, 57])
              (.cond (.tmp 57)
                (.region [
                  ⟨some 59, .bslice 1 [.int .i64 0] 3 [(0, .const (.int .i64 (-1))), (1, .const (.int .i64 100)), (2, .const (.int .i64 101))], none⟩,
                  ⟨some 60, .mov (.tmp 0), none⟩,
                  ⟨some 61, .call 89 [true, false] [.tmp 60, .const (.int .i64 3)], none⟩,
                  ⟨some 62, .iaddr 1 (.tmp 59) (.tmp 61), none⟩,
                  ⟨some 63, .load (.tmp 62) 1 false .plain, none⟩,
                  ⟨some 64, .faddr (.tmp 3) 5, none⟩,
                  ⟨none, .store (.tmp 64) (.tmp 63) 1, none⟩] [3, 4])
                (.region [
                  ⟨some 7, .bslice 1 [.int .i64 0] 3 [(0, .const (.int .i64 (-1))), (1, .const (.int .i64 100)), (2, .const (.int .i64 101))], none⟩,
                  ⟨some 8, .mov (.tmp 0), none⟩,
                  ⟨some 9, .call 89 [true, false] [.tmp 8, .const (.int .i64 3)], none⟩,
                  ⟨some 10, .iaddr 1 (.tmp 7) (.tmp 9), none⟩,
                  ⟨some 11, .load (.tmp 10) 1 false .plain, none⟩,
                  ⟨some 12, .faddr (.tmp 3) 6, none⟩,
                  ⟨none, .store (.tmp 12) (.tmp 11) 1, none⟩] [3, 4])))))))))))))))
  (.seq (.region [
    ⟨some 65, .load (.tmp 3) 7 true .plain, none⟩,
    ⟨none, .store (.tmp 4) (.tmp 65) 7, none⟩] [4])
  .ret)))⟩
-- spec.l1Wants
def c145b0 : CCode := (.seq (.seq (.region [
    ⟨some 7, .mov (.tmp 4), none⟩,
    ⟨some 8, .bin .lss (.tmp 7) (.const (.int .i64 4)), none⟩] [0, 3, 4, 8])
  (.cond (.tmp 8)
    .skip
    (.exit 0)))
  (.seq (.block 1
    (.seq (.region [
      ⟨some 11, .mov (.tmp 0), none⟩,
      ⟨some 12, .call 89 [true, false] [.tmp 11, .const (.int .i64 2)], none⟩,
      ⟨some 13, .bin .eql (.tmp 12) (.const (.int .i64 0)), none⟩] [0, 3, 4, 13])
    (.cond (.tmp 13)
      (.seq (.region [
        ⟨some 14, .mov (.tmp 0), none⟩,
        ⟨some 15, .mov (.tmp 4), none⟩,
        ⟨some 16, .call 140 [false] [.tmp 15], none⟩,
        ⟨some 17, .bin .add (.const (.str ⟨#[99]⟩)) (.tmp 16), none⟩,
        ⟨some 18, .call 87 [true, false] [.tmp 14, .tmp 17], none⟩,
        ⟨some 5, .alloc [.str ⟨#[]⟩, .int .i64 0, .str ⟨#[]⟩, .int .i64 0, .int .i64 0, .int .i64 0, .int .i64 0], none⟩,
        ⟨none, .store (.tmp 5) (.tmp 18) 7, none⟩] [0, 3, 4, 5])
      (.seq (.loud [
        ⟨some 19, .bslice 7 [.str ⟨#[]⟩, .int .i64 0, .str ⟨#[]⟩, .int .i64 0, .int .i64 0, .int .i64 0, .int .i64 0] 0 [], none⟩,
        ⟨some 20, .mov (.tmp 3), none⟩,
        ⟨some 21, .append 7 72 true (.tmp 19) (.tmp 20), none⟩,
        ⟨some 22, .load (.tmp 5) 7 true .plain, none⟩,
        ⟨some 23, .bslice 7 [.str ⟨#[]⟩, .int .i64 0, .str ⟨#[]⟩, .int .i64 0, .int .i64 0, .int .i64 0, .int .i64 0] 1 [(0, .tmp 22)], none⟩,
        ⟨some 24, .append 7 72 true (.tmp 21) (.tmp 23), none⟩,
        ⟨some 25, .call 7 [false] [.tmp 24], none⟩] [0, 0, 3, 0, 8, 31, 63] [0, 3, 4, 5, 25])
      (.cond (.tmp 25)
        (.region [
          ⟨some 26, .mov (.tmp 3), none⟩,
          ⟨some 27, .load (.tmp 5) 7 true .plain, none⟩,
          ⟨some 28, .bslice 7 [.str ⟨#[]⟩, .int .i64 0, .str ⟨#[]⟩, .int .i64 0, .int .i64 0, .int .i64 0, .int .i64 0] 1 [(0, .tmp 27)], none⟩,
          ⟨some 29, .append 7 72 true (.tmp 26) (.tmp 28), none⟩,
          ⟨some 3, .mov (.tmp 29), none⟩] [0, 3, 4])
        .skip)))
      .skip)))
  (.region [
    ⟨some 9, .mov (.tmp 4), none⟩,
    ⟨some 10, .bin .add (.tmp 9) (.const (.int .i64 1)), none⟩,
    ⟨some 4, .mov (.tmp 10), none⟩] [0, 3, 4])))
def c145 : CFn := ⟨31, [.tmp 2],
  (.seq (.region [
    ⟨some 2, .mov (.const (.sl .own 7 [])), none⟩] [0])
  (.seq (.region [
    ⟨some 6, .bslice 7 [.str ⟨#[]⟩, .int .i64 0, .str ⟨#[]⟩, .int .i64 0, .int .i64 0, .int .i64 0, .int .i64 0] 0 [], none⟩,
    ⟨some 3, .mov (.tmp 6), none⟩] [0, 3])
  (.seq (.seq (.region [
    ⟨some 4, .mov (.const (.int .i64 0)), none⟩] [0, 3, 4])
  (.block 0
    (.loop [0, 3, 4] c145b0)))
  (.seq (.region [
    ⟨some 30, .mov (.tmp 3), none⟩,
    ⟨some 2, .mov (.tmp 30), none⟩] [2])
  .ret))))⟩
-- spec.l1Many
def c160b0 : CCode := (.seq (.seq (.region [
    ⟨some 6, .mov (.tmp 1), none⟩,
    ⟨some 7, .bin .gtr (.tmp 6) (.const (.int .i64 0)), none⟩] [0, 1, 5, 7])
  (.cond (.tmp 7)
    .skip
    (.exit 0)))
  (.block 1
    (.seq (.seq (.region [
      ⟨some 8, .mov (.tmp 1), none⟩,
      ⟨some 9, .bin .rem (.tmp 8) (.const (.int .i64 2)), none⟩,
      ⟨some 10, .bin .eql (.tmp 9) (.const (.int .i64 1)), none⟩] [0, 1, 5, 10])
    (.cond (.tmp 10)
      (.region [
        ⟨some 11, .mov (.tmp 5), none⟩,
        ⟨some 12, .mov (.tmp 0), none⟩,
        ⟨some 13, .bin .add (.tmp 11) (.tmp 12), none⟩,
        ⟨some 5, .mov (.tmp 13), none⟩] [0, 1, 5])
      .skip))
    (.seq (.region [
      ⟨some 14, .mov (.tmp 0), none⟩,
      ⟨some 15, .mov (.tmp 0), none⟩,
      ⟨some 16, .bin .add (.tmp 14) (.tmp 15), none⟩,
      ⟨some 0, .mov (.tmp 16), none⟩] [0, 1, 5])
    (.region [
      ⟨some 17, .mov (.tmp 1), none⟩,
      ⟨some 18, .bin .quo (.tmp 17) (.const (.int .i64 2)), none⟩,
      ⟨some 1, .mov (.tmp 18), none⟩] [0, 1, 5])))))
def c160 : CFn := ⟨20, [.tmp 4],
  (.seq (.region [
    ⟨some 4, .mov (.const (.str ⟨#[]⟩)), none⟩] [0, 1])
  (.seq (.region [
    ⟨some 5, .mov (.const (.str ⟨#[]⟩)), none⟩] [0, 1, 5])
  (.seq (.block 0
    (.loop [0, 1, 5] c160b0))
  (.seq (.region [
    ⟨some 19, .mov (.tmp 5), none⟩,
    ⟨some 4, .mov (.tmp 19), none⟩] [4])
  .ret))))⟩
-- spec.l2Runs
def c162b0 : CCode := (.seq (.seq (.region [
    ⟨some 11, .mov (.tmp 8), none⟩,
    ⟨some 12, .bin .lss (.tmp 11) (.const (.int .i64 4)), none⟩] [0, 1, 2, 7, 8, 12])
  (.cond (.tmp 12)
    .skip
    (.exit 0)))
  (.seq (.block 1
    (.seq (.region [
      ⟨some 15, .mov (.tmp 0), none⟩,
      ⟨some 16, .call 89 [true, false] [.tmp 15, .const (.int .i64 2)], none⟩,
      ⟨some 17, .bin .eql (.tmp 16) (.const (.int .i64 0)), none⟩] [0, 1, 2, 7, 8, 17])
    (.cond (.tmp 17)
      (.seq (.region [
        ⟨some 18, .mov (.tmp 0), none⟩,
        ⟨some 19, .mov (.tmp 8), none⟩,
        ⟨some 20, .call 140 [false] [.tmp 19], none⟩,
        ⟨some 21, .bin .add (.const (.str ⟨#[99]⟩)) (.tmp 20), none⟩,
        ⟨some 22, .mov (.tmp 1), none⟩,
        ⟨some 23, .call 90 [true, false, false] [.tmp 18, .tmp 21, .tmp 22], none⟩,
        ⟨some 9, .alloc [.str ⟨#[]⟩, .int .i64 0, .str ⟨#[]⟩, .int .i64 0, .int .i64 0, .int .i64 0, .int .i64 0, .int .i64 0, .int .i64 0, .int .i64 0, .int .i64 0], none⟩,
        ⟨none, .store (.tmp 9) (.tmp 23) 11, none⟩] [0, 1, 2, 7, 8, 9])
      (.seq (.seq (.region [
        ⟨some 24, .mov (.tmp 2), none⟩,
        ⟨some 25, .mov (.tmp 24), none⟩,
        ⟨some 26, .load (.tmp 9) 11 true .plain, some (25, true)⟩,
        ⟨some 27, .mov (.tmp 1), some (25, true)⟩,
        ⟨some 28, .call 84 [false, false] [.tmp 26, .tmp 27], some (25, true)⟩,
        ⟨some 29, .un .not (.tmp 28), some (25, true)⟩,
        ⟨some 30, .pick (.tmp 25) (.tmp 29) (.const (.bool false)), none⟩] [0, 1, 2, 7, 8, 9, 30])
      (.cond (.tmp 30)
        (.seq (.region [
          ⟨some 31, .faddr (.tmp 9) 7, none⟩,
          ⟨none, .store (.tmp 31) (.const (.int .i64 2)) 1, none⟩] [0, 1, 2, 7, 8, 9])
        (.region [
          ⟨some 32, .faddr (.tmp 9) 8, none⟩,
          ⟨none, .store (.tmp 32) (.const (.int .i64 0)) 1, none⟩] [0, 1, 2, 7, 8, 9]))
        .skip))
      (.region [
        ⟨some 33, .mov (.tmp 7), none⟩,
        ⟨some 34, .load (.tmp 9) 11 true .plain, none⟩,
        ⟨some 35, .bslice 11 [.str ⟨#[]⟩, .int .i64 0, .str ⟨#[]⟩, .int .i64 0, .int .i64 0, .int .i64 0, .int .i64 0, .int .i64 0, .int .i64 0, .int .i64 0, .int .i64 0] 1 [(0, .tmp 34)], none⟩,
        ⟨some 36, .append 11 104 true (.tmp 33) (.tmp 35), none⟩,
        ⟨some 7, .mov (.tmp 36), none⟩] [0, 1, 2, 7, 8])))
      .skip)))
  (.region [
    ⟨some 13, .mov (.tmp 8), none⟩,
    ⟨some 14, .bin .add (.tmp 13) (.const (.int .i64 1)), none⟩,
    ⟨some 8, .mov (.tmp 14), none⟩] [0, 1, 2, 7, 8])))
def c162 : CFn := ⟨38, [.tmp 6],
  (.seq (.region [
    ⟨some 6, .mov (.const (.sl .own 11 [])), none⟩] [0, 1, 2])
  (.seq (.region [
    ⟨some 10, .bslice 11 [.str ⟨#[]⟩, .int .i64 0, .str ⟨#[]⟩, .int .i64 0, .int .i64 0, .int .i64 0, .int .i64 0, .int .i64 0, .int .i64 0, .int .i64 0, .int .i64 0] 0 [], none⟩,
    ⟨some 7, .mov (.tmp 10), none⟩] [0, 1, 2, 7])
  (.seq (.seq (.region [
    ⟨some 8, .mov (.const (.int .i64 0)), none⟩] [0, 1, 2, 7, 8])
  (.block 0
    (.loop [0, 1, 2, 7, 8] c162b0)))
  (.seq (.region [
    ⟨some 37, .mov (.tmp 7), none⟩,
    ⟨some 6, .mov (.tmp 37), none⟩] [6])
  .ret))))⟩
-- spec.l1Bend
def c189 : CFn := ⟨81, [.tmp 4],
  (.seq (.region [
    ⟨some 4, .mov (.const (.str ⟨#[]⟩)), none⟩] [0, 1])
  (.seq (.region [
    ⟨some 6, .mov (.tmp 0), none⟩,
    ⟨some 7, .call 89 [true, false] [.tmp 6, .const (.int .i64 256)], none⟩,
    ⟨some 8, .mov (.tmp 1), none⟩,
    ⟨some 9, .len true (.tmp 8), none⟩,
    ⟨some 10, .bin .add (.tmp 9) (.const (.int .i64 1)), none⟩,
    ⟨some 11, .bin .mul (.tmp 7) (.tmp 10), none⟩,
    ⟨some 12, .bin .quo (.tmp 11) (.const (.int .i64 256)), none⟩,
    ⟨some 5, .mov (.tmp 12), none⟩] [0, 1, 5])
  (.seq (.seq (.region [
    ⟨some 13, .mov (.tmp 0), none⟩,
    ⟨some 14, .call 89 [true, false] [.tmp 13, .const (.int .i64 5)], none⟩] [0, 1, 5, 14])
  (.block 0
    (.seq (.region [
      ⟨some 16, .bin .eql (.tmp 14) (.const (.int .i64 0)), none⟩,
      ⟨some 15, .mov (.tmp 16), none⟩] [0, 1, 5, 14, 15])
    (.cond (.tmp 15)
      (.seq (.region [
        ⟨some 17, .mov (.tmp 1), none⟩,
        ⟨some 18, .mov (.tmp 5), none⟩,
        ⟨some 19, .sslice (.tmp 17) none (some (.tmp 18)), none⟩,
        ⟨some 4, .mov (.tmp 19), none⟩] [4])
      .ret)
      (.seq (.region [
        ⟨some 21, .bin .eql (.tmp 14) (.const (.int .i64 1)), none⟩,
        ⟨some 20, .mov (.tmp 21), none⟩] [0, 1, 5, 14, 20])
      (.cond (.tmp 20)
        (.seq (.loud [
          ⟨some 22, .mov (.tmp 1), none⟩,
          ⟨some 23, .mov (.tmp 5), none⟩,
          ⟨some 24, .sslice (.tmp 22) none (some (.tmp 23)), none⟩,
          ⟨some 25, .bslice 1 [.str ⟨#[]⟩] 5 [(0, .const (.str ⟨#[32]⟩)), (1, .const (.str ⟨#[10]⟩)), (2, .const (.str ⟨#[48]⟩)), (3, .const (.str ⟨#[120]⟩)), (4, .const (.str ⟨#[42]⟩))], none⟩,
          ⟨some 26, .mov (.tmp 0), none⟩,
          ⟨some 27, .call 89 [true, false] [.tmp 26, .const (.int .i64 5)], none⟩,
          ⟨some 28, .iaddr 1 (.tmp 25) (.tmp 27), none⟩,
          ⟨some 29, .load (.tmp 28) 1 false .plain, none⟩,
          ⟨some 30, .bin .add (.tmp 24) (.tmp 29), none⟩,
          ⟨some 31, .mov (.tmp 1), none⟩,
          ⟨some 32, .mov (.tmp 5), none⟩,
          ⟨some 33, .sslice (.tmp 31) (some (.tmp 32)) none, none⟩,
          ⟨some 34, .bin .add (.tmp 30) (.tmp 33), none⟩,
          ⟨some 4, .mov (.tmp 34), none⟩] [0, 0, 3, 0, 0, 16, 56, 120, 255, 0, 0, 1536, 4095, 8191] [4])
        .ret)
        (.seq (.region [
          ⟨some 36, .bin .eql (.tmp 14) (.const (.int .i64 2)), none⟩,
          ⟨some 35, .mov (.tmp 36), none⟩] [0, 1, 5, 14, 35])
        (.cond (.tmp 35)
          (.seq (.region [
            ⟨some 37, .mov (.tmp 5), none⟩,
            ⟨some 38, .mov (.tmp 1), none⟩,
            ⟨some 39, .len true (.tmp 38), none⟩,
            ⟨some 40, .bin .lss (.tmp 37) (.tmp 39), none⟩] [1, 5, 40])
          (.cond (.tmp 40)
            (.seq (.quiet [
              ⟨some 41, .mov (.tmp 1), none⟩,
              ⟨some 42, .mov (.tmp 5), none⟩,
              ⟨some 43, .sslice (.tmp 41) none (some (.tmp 42)), none⟩,
              ⟨some 44, .mov (.tmp 1), none⟩,
              ⟨some 45, .mov (.tmp 5), none⟩,
              ⟨some 46, .bin .add (.tmp 45) (.const (.int .i64 1)), none⟩,
              ⟨some 47, .sslice (.tmp 44) (some (.tmp 46)) none, none⟩,
              ⟨some 48, .bin .add (.tmp 43) (.tmp 47), none⟩,
              ⟨some 4, .mov (.tmp 48), none⟩] [4])
            .ret)
            .skip))
          (.seq (.region [
            ⟨some 50, .bin .eql (.tmp 14) (.const (.int .i64 3)), none⟩,
            ⟨some 49, .mov (.tmp 50), none⟩] [0, 1, 5, 49])
          (.cond (.tmp 49)
            (.seq (.region [
              ⟨some 51, .mov (.tmp 5), none⟩,
              ⟨some 52, .mov (.tmp 1), none⟩,
              ⟨some 53, .len true (.tmp 52), none⟩,
              ⟨some 54, .bin .lss (.tmp 51) (.tmp 53), none⟩] [0, 1, 5, 54])
            (.cond (.tmp 54)
              (.seq (.loud [
                ⟨some 55, .mov (.tmp 1), none⟩,
                ⟨some 56, .mov (.tmp 5), none⟩,
                ⟨some 57, .sslice (.tmp 55) none (some (.tmp 56)), none⟩,
                ⟨some 58, .mov (.tmp 1), none⟩,
                ⟨some 59, .mov (.tmp 5), none⟩,
                ⟨some 60, .sidx (.tmp 58) (.tmp 59), none⟩,
                ⟨some 61, .conv .i64 (.tmp 60), none⟩,
                ⟨some 62, .mov (.tmp 0), none⟩,
                ⟨some 63, .call 89 [true, false] [.tmp 62, .const (.int .i64 8)], none⟩,
                ⟨some 64, .conv .u64 (.tmp 63), none⟩,
                ⟨some 65, .bin .shl (.const (.int .i64 1)) (.tmp 64), none⟩,
                ⟨some 66, .bin .xor (.tmp 61) (.tmp 65), none⟩,
                ⟨some 67, .conv .u8 (.tmp 66), none⟩,
                ⟨some 68, .bslice 1 [.int .u8 0] 1 [(0, .tmp 67)], none⟩,
                ⟨some 69, .toStr (.tmp 68), none⟩,
                ⟨some 70, .bin .add (.tmp 57) (.tmp 69), none⟩,
                ⟨some 71, .mov (.tmp 1), none⟩,
                ⟨some 72, .mov (.tmp 5), none⟩,
                ⟨some 73, .bin .add (.tmp 72) (.const (.int .i64 1)), none⟩,
                ⟨some 74, .sslice (.tmp 71) (some (.tmp 73)) none, none⟩,
                ⟨some 75, .bin .add (.tmp 70) (.tmp 74), none⟩,
                ⟨some 4, .mov (.tmp 75), none⟩] [0, 0, 3, 0, 0, 24, 56, 0, 128, 384, 896, 2040, 4088, 8184, 16376, 32767, 0, 0, 131072, 458752, 1048575, 2097151] [4])
              .ret)
              .skip))
            .skip))))))))))
  (.seq (.region [
    ⟨some 76, .mov (.tmp 1), none⟩,
    ⟨some 77, .mov (.tmp 1), none⟩,
    ⟨some 78, .mov (.tmp 5), none⟩,
    ⟨some 79, .sslice (.tmp 77) (some (.tmp 78)) none, none⟩,
    ⟨some 80, .bin .add (.tmp 76) (.tmp 79), none⟩,
    ⟨some 4, .mov (.tmp 80), none⟩] [4])
  .ret))))⟩
-- spec.l7Cut
def c194b0 : CCode := (.seq (.seq (.region [
    ⟨some 9, .mov (.tmp 7), none⟩,
    ⟨some 10, .mov (.tmp 0), none⟩,
    ⟨some 11, .len true (.tmp 10), none⟩,
    ⟨some 12, .bin .lss (.tmp 9) (.tmp 11), none⟩] [0, 1, 5, 6, 7, 12])
  (.cond (.tmp 12)
    .skip
    (.exit 0)))
  (.seq (.block 1
    (.seq (.region [
      ⟨some 15, .mov (.tmp 0), none⟩,
      ⟨some 16, .mov (.tmp 7), none⟩,
      ⟨some 17, .sidx (.tmp 15) (.tmp 16), none⟩,
      ⟨some 18, .mov (.tmp 1), none⟩,
      ⟨some 19, .bin .eql (.tmp 17) (.tmp 18), none⟩] [0, 1, 5, 6, 7, 19])
    (.cond (.tmp 19)
      (.seq (.region [
        ⟨some 20, .mov (.tmp 5), none⟩,
        ⟨some 21, .mov (.tmp 0), none⟩,
        ⟨some 22, .mov (.tmp 6), none⟩,
        ⟨some 23, .mov (.tmp 7), none⟩,
        ⟨some 24, .sslice (.tmp 21) (some (.tmp 22)) (some (.tmp 23)), none⟩,
        ⟨some 25, .bslice 1 [.str ⟨#[]⟩] 1 [(0, .tmp 24)], none⟩,
        ⟨some 26, .append 1 16 true (.tmp 20) (.tmp 25), none⟩,
        ⟨some 5, .mov (.tmp 26), none⟩] [0, 1, 5, 7])
      (.region [
        ⟨some 27, .mov (.tmp 7), none⟩,
        ⟨some 28, .bin .add (.tmp 27) (.const (.int .i64 1)), none⟩,
        ⟨some 6, .mov (.tmp 28), none⟩] [0, 1, 5, 6, 7]))
      .skip)))
  (.region [
    ⟨some 13, .mov (.tmp 7), none⟩,
    ⟨some 14, .bin .add (.tmp 13) (.const (.int .i64 1)), none⟩,
    ⟨some 7, .mov (.tmp 14), none⟩] [0, 1, 5, 6, 7])))
def c194 : CFn := ⟨35, [.tmp 4],
  (.seq (.region [
    ⟨some 4, .mov (.const (.sl .own 1 [])), none⟩] [0, 1])
  (.seq (.region [
    ⟨some 8, .bslice 1 [.str ⟨#[]⟩] 0 [], none⟩,
    ⟨some 5, .mov (.tmp 8), none⟩] [0, 1, 5])
  (.seq (.region [
    ⟨some 6, .mov (.const (.int .i64 0)), none⟩] [0, 1, 5, 6])
  (.seq (.seq (.region [
    ⟨some 7, .mov (.const (.int .i64 0)), none⟩] [0, 1, 5, 6, 7])
  (.block 0
    (.loop [0, 1, 5, 6, 7] c194b0)))
  (.seq (.region [
    ⟨some 29, .mov (.tmp 5), none⟩,
    ⟨some 30, .mov (.tmp 0), none⟩,
    ⟨some 31, .mov (.tmp 6), none⟩,
    ⟨some 32, .sslice (.tmp 30) (some (.tmp 31)) none, none⟩,
    ⟨some 33, .bslice 1 [.str ⟨#[]⟩] 1 [(0, .tmp 32)], none⟩,
    ⟨some 34, .append 1 16 true (.tmp 29) (.tmp 33), none⟩,
    ⟨some 4, .mov (.tmp 34), none⟩] [4])
  .ret)))))⟩
-- impl.MateRead
def c207b0 : CCode := (.seq (.region [
    ⟨some 49, .bin .lss (.tmp 48) (.tmp 47), none⟩] [0, 2, 6, 7, 46, 47, 48, 49])
  (.seq (.cond (.tmp 49)
    .skip
    (.exit 1))
  (.seq (.block 2
    (.seq (.region [
      ⟨some 50, .iaddr 1 (.tmp 46) (.tmp 48), none⟩,
      ⟨some 51, .load (.tmp 50) 1 false .plain, none⟩,
      ⟨some 9, .mov (.tmp 51), none⟩] [0, 2, 6, 7, 9, 46, 47, 48])
    (.seq (.region [
      ⟨some 52, .mov (.tmp 9), none⟩,
      ⟨some 53, .call 220 [false, false] [.tmp 52, .const (.str ⟨#[32]⟩)], none⟩,
      ⟨some 10, .mov (.tmp 53), none⟩] [0, 2, 6, 7, 10, 46, 47, 48])
    (.seq (.seq (.region [
      ⟨some 54, .mov (.tmp 10), none⟩,
      ⟨some 55, .len false (.tmp 54), none⟩,
      ⟨some 56, .bin .neq (.tmp 55) (.const (.int .i64 8)), none⟩,
      ⟨some 57, .mov (.tmp 56), none⟩,
      ⟨some 58, .mov (.tmp 10), some (57, false)⟩,
      ⟨some 59, .iaddr 1 (.tmp 58) (.const (.int .i64 0)), some (57, false)⟩,
      ⟨some 60, .load (.tmp 59) 1 false .plain, some (57, false)⟩,
      ⟨some 61, .bin .neq (.tmp 60) (.const (.str ⟨#[119, 97, 110, 116]⟩)), some (57, false)⟩,
      ⟨some 62, .pick (.tmp 57) (.const (.bool true)) (.tmp 61), none⟩] [0, 2, 6, 7, 10, 46, 47, 48, 62])
    (.cond (.tmp 62)
      (.seq (.region [
        ⟨some 63, .build [.int .i64 0, .str ⟨#[]⟩, .int .i64 0, .sl .own 7 [], .str ⟨#[]⟩, .str ⟨#[]⟩, .int .i64 0] [], none⟩,
        ⟨none, .store (.tmp 2) (.tmp 63) 7, none⟩,
        ⟨some 3, .mov (.const (.bool false)), none⟩] [2, 3])
      .ret)
      .skip))
    (.seq (.region [
      ⟨some 64, .mov (.tmp 10), none⟩,
      ⟨some 65, .iaddr 1 (.tmp 64) (.const (.int .i64 3)), none⟩,
      ⟨some 66, .load (.tmp 65) 1 false .plain, none⟩,
      ⟨some 11, .mov (.tmp 66), none⟩] [0, 2, 6, 7, 10, 11, 46, 47, 48])
    (.seq (.seq (.region [
      ⟨some 67, .mov (.tmp 11), none⟩,
      ⟨some 68, .bin .eql (.tmp 67) (.const (.str ⟨#[42]⟩)), none⟩] [0, 2, 6, 7, 10, 11, 46, 47, 48, 68])
    (.cond (.tmp 68)
      (.region [
        ⟨some 11, .mov (.const (.str ⟨#[]⟩)), none⟩] [0, 2, 6, 7, 10, 11, 46, 47, 48])
      .skip))
    (.loud [
      ⟨some 69, .faddr (.tmp 7) 3, none⟩,
      ⟨some 70, .load (.tmp 69) 1 false .plain, none⟩,
      ⟨some 71, .mov (.tmp 10), none⟩,
      ⟨some 72, .iaddr 1 (.tmp 71) (.const (.int .i64 1)), none⟩,
      ⟨some 73, .load (.tmp 72) 1 false .plain, none⟩,
      ⟨some 74, .mov (.tmp 6), none⟩,
      ⟨some 75, .mov (.tmp 10), none⟩,
      ⟨some 76, .iaddr 1 (.tmp 75) (.const (.int .i64 2)), none⟩,
      ⟨some 77, .load (.tmp 76) 1 false .plain, none⟩,
      ⟨some 78, .callf (.tmp 74) [false] [.tmp 77], none⟩,
      ⟨some 79, .mov (.tmp 11), none⟩,
      ⟨some 80, .mov (.tmp 6), none⟩,
      ⟨some 81, .mov (.tmp 10), none⟩,
      ⟨some 82, .iaddr 1 (.tmp 81) (.const (.int .i64 4)), none⟩,
      ⟨some 83, .load (.tmp 82) 1 false .plain, none⟩,
      ⟨some 84, .callf (.tmp 80) [false] [.tmp 83], none⟩,
      ⟨some 85, .mov (.tmp 6), none⟩,
      ⟨some 86, .mov (.tmp 10), none⟩,
      ⟨some 87, .iaddr 1 (.tmp 86) (.const (.int .i64 5)), none⟩,
      ⟨some 88, .load (.tmp 87) 1 false .plain, none⟩,
      ⟨some 89, .callf (.tmp 85) [false] [.tmp 88], none⟩,
      ⟨some 90, .mov (.tmp 6), none⟩,
      ⟨some 91, .mov (.tmp 10), none⟩,
      ⟨some 92, .iaddr 1 (.tmp 91) (.const (.int .i64 6)), none⟩,
      ⟨some 93, .load (.tmp 92) 1 false .plain, none⟩,
      ⟨some 94, .callf (.tmp 90) [false] [.tmp 93], none⟩,
      ⟨some 95, .mov (.tmp 6), none⟩,
      ⟨some 96, .mov (.tmp 10), none⟩,
      ⟨some 97, .iaddr 1 (.tmp 96) (.const (.int .i64 7)), none⟩,
      ⟨some 98, .load (.tmp 97) 1 false .plain, none⟩,
      ⟨some 99, .callf (.tmp 95) [false] [.tmp 98], none⟩,
      ⟨some 100, .build [.str ⟨#[]⟩, .int .i64 0, .str ⟨#[]⟩, .int .i64 0, .int .i64 0, .int .i64 0, .int .i64 0] [(0, 1, .tmp 73), (1, 1, .tmp 78), (2, 1, .tmp 79), (3, 1, .tmp 84), (4, 1, .tmp 89), (5, 1, .tmp 94), (6, 1, .tmp 99)], none⟩,
      ⟨some 101, .bslice 7 [.str ⟨#[]⟩, .int .i64 0, .str ⟨#[]⟩, .int .i64 0, .int .i64 0, .int .i64 0, .int .i64 0] 1 [(0, .tmp 100)], none⟩,
      ⟨some 102, .append 7 72 true (.tmp 70) (.tmp 101), none⟩,
      ⟨some 103, .faddr (.tmp 7) 3, none⟩,
      ⟨none, .store (.tmp 103) (.tmp 102) 1, none⟩] [0, 1, 0, 4, 12, 0, 0, 64, 192, 480, 0, 0, 0, 4096, 12288, 31712, 0, 0, 131072, 393216, 1047520, 0, 0, 4194304, 12582912, 33553376, 0, 0, 134217728, 402653184, 1073740768, 2147483644, 4294967292, 8589934591, 17179869183, 34359738367] [0, 2, 6, 7, 46, 47, 48])))))))
  (.region [
    ⟨some 104, .bin .add (.tmp 48) (.const (.int .i64 1)), none⟩,
    ⟨some 48, .mov (.tmp 104), none⟩] [0, 2, 6, 7, 46, 47, 48]))))
def c207 : CFn := ⟨195, [.cell 2 7 true, .tmp 3],
  (.seq (.region [
    ⟨some 2, .alloc [.int .i64 0, .str ⟨#[]⟩, .int .i64 0, .sl .own 7 [], .str ⟨#[]⟩, .str ⟨#[]⟩, .int .i64 0], none⟩,
    ⟨some 3, .mov (.const (.bool false)), none⟩] [0, 2])
  (.seq (.seq (.region [
    ⟨some 12, .mov (.tmp 0), none⟩,
    ⟨some 13, .call 222 [false, false] [.tmp 12, .const (.str ⟨#[10]⟩)], none⟩,
    ⟨some 14, .un .not (.tmp 13), none⟩] [0, 2, 14])
  (.cond (.tmp 14)
    (.seq (.region [
      ⟨some 15, .build [.int .i64 0, .str ⟨#[]⟩, .int .i64 0, .sl .own 7 [], .str ⟨#[]⟩, .str ⟨#[]⟩, .int .i64 0] [], none⟩,
      ⟨none, .store (.tmp 2) (.tmp 15) 7, none⟩,
      ⟨some 3, .mov (.const (.bool false)), none⟩] [2, 3])
    .ret)
    .skip))
  (.seq (.region [
    ⟨some 16, .mov (.tmp 0), none⟩,
    ⟨some 17, .mov (.tmp 0), none⟩,
    ⟨some 18, .len true (.tmp 17), none⟩,
    ⟨some 19, .bin .sub (.tmp 18) (.const (.int .i64 1)), none⟩,
    ⟨some 20, .sslice (.tmp 16) none (some (.tmp 19)), none⟩,
    ⟨some 21, .call 220 [false, false] [.tmp 20, .const (.str ⟨#[10]⟩)], none⟩,
    ⟨some 4, .mov (.tmp 21), none⟩] [0, 2, 4])
  (.seq (.region [
    ⟨some 22, .mov (.tmp 4), none⟩,
    ⟨some 23, .iaddr 1 (.tmp 22) (.const (.int .i64 0)), none⟩,
    ⟨some 24, .load (.tmp 23) 1 false .plain, none⟩,
    ⟨some 25, .call 220 [false, false] [.tmp 24, .const (.str ⟨#[32]⟩)], none⟩,
    ⟨some 5, .mov (.tmp 25), none⟩] [0, 2, 4, 5])
  (.seq (.region [
    ⟨some 6, .mov (.const (.fn 221)), none⟩] [0, 2, 4, 5, 6])
  (.seq (.region [
    ⟨some 7, .alloc [.int .i64 0, .str ⟨#[]⟩, .int .i64 0, .sl .own 7 [], .str ⟨#[]⟩, .str ⟨#[]⟩, .int .i64 0], none⟩] [0, 2, 4, 5, 6, 7])
  (.seq (.block 0
    (.seq (.region [
      ⟨some 27, .mov (.tmp 5), none⟩,
      ⟨some 28, .iaddr 1 (.tmp 27) (.const (.int .i64 0)), none⟩,
      ⟨some 29, .load (.tmp 28) 1 false .plain, none⟩,
      ⟨some 30, .bin .eql (.tmp 29) (.const (.str ⟨#[116, 111, 108, 100]⟩)), none⟩,
      ⟨some 31, .mov (.tmp 30), none⟩,
      ⟨some 32, .mov (.tmp 5), some (31, true)⟩,
      ⟨some 33, .len false (.tmp 32), some (31, true)⟩,
      ⟨some 34, .bin .eql (.tmp 33) (.const (.int .i64 3)), some (31, true)⟩,
      ⟨some 35, .pick (.tmp 31) (.tmp 34) (.const (.bool false)), none⟩,
      ⟨some 26, .mov (.tmp 35), none⟩] [0, 2, 4, 5, 6, 7, 26])
    (.cond (.tmp 26)
      (.seq (.loud [
        ⟨some 36, .mov (.tmp 5), none⟩,
        ⟨some 37, .iaddr 1 (.tmp 36) (.const (.int .i64 1)), none⟩,
        ⟨some 38, .load (.tmp 37) 1 false .plain, none⟩,
        ⟨some 39, .mov (.tmp 6), none⟩,
        ⟨some 40, .mov (.tmp 5), none⟩,
        ⟨some 41, .iaddr 1 (.tmp 40) (.const (.int .i64 2)), none⟩,
        ⟨some 42, .load (.tmp 41) 1 false .plain, none⟩,
        ⟨some 43, .callf (.tmp 39) [false] [.tmp 42], none⟩,
        ⟨some 44, .build [.int .i64 0, .str ⟨#[]⟩, .int .i64 0, .sl .own 7 [], .str ⟨#[]⟩, .str ⟨#[]⟩, .int .i64 0] [(0, 1, .const (.int .i64 1)), (1, 1, .tmp 38), (2, 1, .tmp 43)], none⟩,
        ⟨none, .store (.tmp 7) (.tmp 44) 7, none⟩] [0, 1, 3, 0, 0, 16, 48, 120, 255, 511] [0, 2, 4, 6, 7])
      (.seq (.region [
        ⟨some 45, .mov (.tmp 4), none⟩,
        ⟨some 46, .slice 1 (.tmp 45) (some (.const (.int .i64 1))) none, none⟩,
        ⟨some 47, .len false (.tmp 46), none⟩,
        ⟨some 48, .mov (.const (.int .i64 0)), none⟩] [0, 2, 6, 7, 46, 47, 48])
      (.block 1
        (.loop [0, 2, 6, 7, 46, 47, 48] c207b0))))
      (.seq (.region [
        ⟨some 106, .mov (.tmp 5), none⟩,
        ⟨some 107, .len false (.tmp 106), none⟩,
        ⟨some 108, .bin .eql (.tmp 107) (.const (.int .i64 5)), none⟩,
        ⟨some 109, .mov (.tmp 108), none⟩,
        ⟨some 110, .mov (.tmp 5), some (109, true)⟩,
        ⟨some 111, .iaddr 1 (.tmp 110) (.const (.int .i64 0)), some (109, true)⟩,
        ⟨some 112, .load (.tmp 111) 1 false .plain, some (109, true)⟩,
        ⟨some 113, .bin .eql (.tmp 112) (.const (.str ⟨#[97, 115, 107, 101, 100]⟩)), some (109, true)⟩,
        ⟨some 114, .mov (.tmp 113), some (109, true)⟩,
        ⟨some 115, .mov (.tmp 5), some (114, false)⟩,
        ⟨some 116, .iaddr 1 (.tmp 115) (.const (.int .i64 0)), some (114, false)⟩,
        ⟨some 117, .load (.tmp 116) 1 false .plain, some (114, false)⟩,
        ⟨some 118, .bin .eql (.tmp 117) (.const (.str ⟨#[103, 105, 118, 101, 110]⟩)), some (114, false)⟩,
        ⟨some 119, .pick (.tmp 114) (.const (.bool true)) (.tmp 118), some (109, true)⟩,
        ⟨some 120, .mov (.tmp 119), some (109, true)⟩,
        ⟨some 121, .mov (.tmp 5), some (120, false)⟩,
        ⟨some 122, .iaddr 1 (.tmp 121) (.const (.int .i64 0)), some (120, false)⟩,
        ⟨some 123, .load (.tmp 122) 1 false .plain, some (120, false)⟩,
        ⟨some 124, .bin .eql (.tmp 123) (.const (.str ⟨#[98, 97, 99, 107]⟩)), some (120, false)⟩,
        ⟨some 125, .pick (.tmp 120) (.const (.bool true)) (.tmp 124), some (109, true)⟩,
        ⟨some 126, .pick (.tmp 109) (.tmp 125) (.const (.bool false)), none⟩,
        ⟨some 105, .mov (.tmp 126), none⟩] [0, 2, 5, 6, 7, 105])
      (.cond (.tmp 105)
        (.loud [
          ⟨some 127, .mkmap false, none⟩,
          ⟨none, .mapset false (.tmp 127) (.const (.str ⟨#[97, 115, 107, 101, 100]⟩)) (.const (.int .i64 2)), none⟩,
          ⟨none, .mapset false (.tmp 127) (.const (.str ⟨#[103, 105, 118, 101, 110]⟩)) (.const (.int .i64 3)), none⟩,
          ⟨none, .mapset false (.tmp 127) (.const (.str ⟨#[98, 97, 99, 107]⟩)) (.const (.int .i64 4)), none⟩,
          ⟨some 128, .mov (.tmp 127), none⟩,
          ⟨some 129, .mov (.tmp 5), none⟩,
          ⟨some 130, .iaddr 1 (.tmp 129) (.const (.int .i64 0)), none⟩,
          ⟨some 131, .load (.tmp 130) 1 false .plain, none⟩,
          ⟨some 132, .lookup false (.int .i64 0) (.tmp 128) (.tmp 131), none⟩,
          ⟨some 133, .mov (.tmp 5), none⟩,
          ⟨some 134, .iaddr 1 (.tmp 133) (.const (.int .i64 1)), none⟩,
          ⟨some 135, .load (.tmp 134) 1 false .plain, none⟩,
          ⟨some 136, .mov (.tmp 5), none⟩,
          ⟨some 137, .iaddr 1 (.tmp 136) (.const (.int .i64 2)), none⟩,
          ⟨some 138, .load (.tmp 137) 1 false .plain, none⟩,
          ⟨some 139, .mov (.tmp 5), none⟩,
          ⟨some 140, .iaddr 1 (.tmp 139) (.const (.int .i64 3)), none⟩,
          ⟨some 141, .load (.tmp 140) 1 false .plain, none⟩,
          ⟨some 142, .mov (.tmp 6), none⟩,
          ⟨some 143, .mov (.tmp 5), none⟩,
          ⟨some 144, .iaddr 1 (.tmp 143) (.const (.int .i64 4)), none⟩,
          ⟨some 145, .load (.tmp 144) 1 false .plain, none⟩,
          ⟨some 146, .callf (.tmp 142) [false] [.tmp 145], none⟩,
          ⟨some 147, .build [.int .i64 0, .str ⟨#[]⟩, .int .i64 0, .sl .own 7 [], .str ⟨#[]⟩, .str ⟨#[]⟩, .int .i64 0] [(0, 1, .tmp 132), (1, 1, .tmp 135), (4, 1, .tmp 138), (5, 1, .tmp 141), (6, 1, .tmp 146)], none⟩,
          ⟨none, .store (.tmp 7) (.tmp 147) 7, none⟩] [0, 1, 1, 1, 15, 0, 32, 96, 255, 0, 512, 1536, 0, 4096, 12288, 0, 32768, 98304, 0, 0, 524288, 1572864, 3932160, 8388607, 16777215] [0, 2, 7])
        (.seq (.region [
          ⟨some 149, .mov (.tmp 5), none⟩,
          ⟨some 150, .iaddr 1 (.tmp 149) (.const (.int .i64 0)), none⟩,
          ⟨some 151, .load (.tmp 150) 1 false .plain, none⟩,
          ⟨some 152, .bin .eql (.tmp 151) (.const (.str ⟨#[103, 111, 116, 98, 97, 99, 107]⟩)), none⟩,
          ⟨some 153, .mov (.tmp 152), none⟩,
          ⟨some 154, .mov (.tmp 5), some (153, true)⟩,
          ⟨some 155, .len false (.tmp 154), some (153, true)⟩,
          ⟨some 156, .bin .eql (.tmp 155) (.const (.int .i64 4)), some (153, true)⟩,
          ⟨some 157, .pick (.tmp 153) (.tmp 156) (.const (.bool false)), none⟩,
          ⟨some 148, .mov (.tmp 157), none⟩] [0, 2, 5, 6, 7, 148])
        (.cond (.tmp 148)
          (.loud [
            ⟨some 158, .mov (.tmp 5), none⟩,
            ⟨some 159, .iaddr 1 (.tmp 158) (.const (.int .i64 1)), none⟩,
            ⟨some 160, .load (.tmp 159) 1 false .plain, none⟩,
            ⟨some 161, .mov (.tmp 5), none⟩,
            ⟨some 162, .iaddr 1 (.tmp 161) (.const (.int .i64 2)), none⟩,
            ⟨some 163, .load (.tmp 162) 1 false .plain, none⟩,
            ⟨some 164, .mov (.tmp 6), none⟩,
            ⟨some 165, .mov (.tmp 5), none⟩,
            ⟨some 166, .iaddr 1 (.tmp 165) (.const (.int .i64 3)), none⟩,
            ⟨some 167, .load (.tmp 166) 1 false .plain, none⟩,
            ⟨some 168, .callf (.tmp 164) [false] [.tmp 167], none⟩,
            ⟨some 169, .build [.int .i64 0, .str ⟨#[]⟩, .int .i64 0, .sl .own 7 [], .str ⟨#[]⟩, .str ⟨#[]⟩, .int .i64 0] [(0, 1, .const (.int .i64 5)), (1, 1, .tmp 160), (4, 1, .tmp 163), (6, 1, .tmp 168)], none⟩,
            ⟨none, .store (.tmp 7) (.tmp 169) 7, none⟩] [0, 1, 3, 0, 8, 24, 0, 0, 128, 384, 960, 2047, 4095] [0, 2, 7])
          (.seq (.region [
            ⟨some 171, .mov (.tmp 5), none⟩,
            ⟨some 172, .iaddr 1 (.tmp 171) (.const (.int .i64 0)), none⟩,
            ⟨some 173, .load (.tmp 172) 1 false .plain, none⟩,
            ⟨some 174, .bin .eql (.tmp 173) (.const (.str ⟨#[104, 101, 114, 101]⟩)), none⟩,
            ⟨some 175, .mov (.tmp 174), none⟩,
            ⟨some 176, .mov (.tmp 5), some (175, true)⟩,
            ⟨some 177, .len false (.tmp 176), some (175, true)⟩,
            ⟨some 178, .bin .eql (.tmp 177) (.const (.int .i64 3)), some (175, true)⟩,
            ⟨some 179, .pick (.tmp 175) (.tmp 178) (.const (.bool false)), none⟩,
            ⟨some 170, .mov (.tmp 179), none⟩] [0, 2, 5, 6, 7, 170])
          (.cond (.tmp 170)
            (.loud [
              ⟨some 180, .mov (.tmp 5), none⟩,
              ⟨some 181, .iaddr 1 (.tmp 180) (.const (.int .i64 1)), none⟩,
              ⟨some 182, .load (.tmp 181) 1 false .plain, none⟩,
              ⟨some 183, .mov (.tmp 6), none⟩,
              ⟨some 184, .mov (.tmp 5), none⟩,
              ⟨some 185, .iaddr 1 (.tmp 184) (.const (.int .i64 2)), none⟩,
              ⟨some 186, .load (.tmp 185) 1 false .plain, none⟩,
              ⟨some 187, .callf (.tmp 183) [false] [.tmp 186], none⟩,
              ⟨some 188, .build [.int .i64 0, .str ⟨#[]⟩, .int .i64 0, .sl .own 7 [], .str ⟨#[]⟩, .str ⟨#[]⟩, .int .i64 0] [(0, 1, .const (.int .i64 6)), (1, 1, .tmp 182), (2, 1, .tmp 187)], none⟩,
              ⟨none, .store (.tmp 7) (.tmp 188) 7, none⟩] [0, 1, 3, 0, 0, 16, 48, 120, 255, 511] [0, 2, 7])
            .skip)))))))))
  (.seq (.seq (.region [
    ⟨some 189, .load (.tmp 7) 7 true .plain, none⟩,
    ⟨some 190, .call 218 [false] [.tmp 189], none⟩,
    ⟨some 191, .mov (.tmp 0), none⟩,
    ⟨some 192, .bin .neq (.tmp 190) (.tmp 191), none⟩] [2, 7, 192])
  (.cond (.tmp 192)
    (.seq (.region [
      ⟨some 193, .build [.int .i64 0, .str ⟨#[]⟩, .int .i64 0, .sl .own 7 [], .str ⟨#[]⟩, .str ⟨#[]⟩, .int .i64 0] [], none⟩,
      ⟨none, .store (.tmp 2) (.tmp 193) 7, none⟩,
      ⟨some 3, .mov (.const (.bool false)), none⟩] [2, 3])
    .ret)
    .skip))
  (.seq (.region [
    ⟨some 194, .load (.tmp 7) 7 true .plain, none⟩,
    ⟨none, .store (.tmp 2) (.tmp 194) 7, none⟩,
    ⟨some 3, .mov (.const (.bool true)), none⟩] [2, 3])
  .ret)))))))))⟩
-- impl.MateForm
def c218b0 : CCode := (.seq (.region [
    ⟨some 72, .bin .lss (.tmp 71) (.tmp 70), none⟩] [3, 7, 69, 70, 71, 72])
  (.seq (.cond (.tmp 72)
    .skip
    (.exit 1))
  (.seq (.block 2
    (.seq (.region [
      ⟨some 73, .iaddr 7 (.tmp 69) (.tmp 71), none⟩,
      ⟨some 74, .load (.tmp 73) 7 true .plain, none⟩,
      ⟨some 9, .alloc [.str ⟨#[]⟩, .int .i64 0, .str ⟨#[]⟩, .int .i64 0, .int .i64 0, .int .i64 0, .int .i64 0], none⟩,
      ⟨none, .store (.tmp 9) (.tmp 74) 7, none⟩] [3, 7, 9, 69, 70, 71])
    (.seq (.region [
      ⟨some 75, .faddr (.tmp 9) 2, none⟩,
      ⟨some 76, .load (.tmp 75) 1 false .plain, none⟩,
      ⟨some 10, .mov (.tmp 76), none⟩] [3, 7, 9, 10, 69, 70, 71])
    (.seq (.seq (.region [
      ⟨some 77, .mov (.tmp 10), none⟩,
      ⟨some 78, .bin .eql (.tmp 77) (.const (.str ⟨#[42]⟩)), none⟩] [3, 7, 9, 10, 69, 70, 71, 78])
    (.cond (.tmp 78)
      (.seq (.region [
        ⟨some 2, .mov (.const (.str ⟨#[]⟩)), none⟩] [2])
      .ret)
      .skip))
    (.seq (.seq (.region [
      ⟨some 79, .mov (.tmp 10), none⟩,
      ⟨some 80, .bin .eql (.tmp 79) (.const (.str ⟨#[]⟩)), none⟩] [3, 7, 9, 10, 69, 70, 71, 80])
    (.cond (.tmp 80)
      (.region [
        ⟨some 10, .mov (.const (.str ⟨#[42]⟩)), none⟩] [3, 7, 9, 10, 69, 70, 71])
      .skip))
    (.loud [
      ⟨some 81, .mov (.tmp 7), none⟩,
      ⟨some 82, .faddr (.tmp 9) 0, none⟩,
      ⟨some 83, .load (.tmp 82) 1 false .plain, none⟩,
      ⟨some 84, .mov (.tmp 3), none⟩,
      ⟨some 85, .faddr (.tmp 9) 1, none⟩,
      ⟨some 86, .load (.tmp 85) 1 false .plain, none⟩,
      ⟨some 87, .callf (.tmp 84) [false] [.tmp 86], none⟩,
      ⟨some 88, .mov (.tmp 10), none⟩,
      ⟨some 89, .mov (.tmp 3), none⟩,
      ⟨some 90, .faddr (.tmp 9) 3, none⟩,
      ⟨some 91, .load (.tmp 90) 1 false .plain, none⟩,
      ⟨some 92, .callf (.tmp 89) [false] [.tmp 91], none⟩,
      ⟨some 93, .mov (.tmp 3), none⟩,
      ⟨some 94, .faddr (.tmp 9) 4, none⟩,
      ⟨some 95, .load (.tmp 94) 1 false .plain, none⟩,
      ⟨some 96, .callf (.tmp 93) [false] [.tmp 95], none⟩,
      ⟨some 97, .mov (.tmp 3), none⟩,
      ⟨some 98, .faddr (.tmp 9) 5, none⟩,
      ⟨some 99, .load (.tmp 98) 1 false .plain, none⟩,
      ⟨some 100, .callf (.tmp 97) [false] [.tmp 99], none⟩,
      ⟨some 101, .mov (.tmp 3), none⟩,
      ⟨some 102, .faddr (.tmp 9) 6, none⟩,
      ⟨some 103, .load (.tmp 102) 1 false .plain, none⟩,
      ⟨some 104, .callf (.tmp 101) [false] [.tmp 103], none⟩,
      ⟨some 105, .bslice 1 [.str ⟨#[]⟩] 8 [(0, .const (.str ⟨#[119, 97, 110, 116]⟩)), (1, .tmp 83), (2, .tmp 87), (3, .tmp 88), (4, .tmp 92), (5, .tmp 96), (6, .tmp 100), (7, .tmp 104)], none⟩,
      ⟨some 106, .call 230 [false, false] [.tmp 105, .const (.str ⟨#[32]⟩)], none⟩,
      ⟨some 107, .bin .add (.tmp 106) (.const (.str ⟨#[10]⟩)), none⟩,
      ⟨some 108, .bin .add (.tmp 81) (.tmp 107), none⟩,
      ⟨some 7, .mov (.tmp 108), none⟩] [0, 0, 2, 0, 0, 16, 56, 0, 0, 0, 512, 1912, 0, 0, 8192, 32632, 0, 0, 131072, 524152, 0, 0, 2097152, 8388472, 16777214, 33554430, 67108862, 134217727, 268435455] [3, 7, 69, 70, 71]))))))
  (.region [
    ⟨some 109, .bin .add (.tmp 71) (.const (.int .i64 1)), none⟩,
    ⟨some 71, .mov (.tmp 109), none⟩] [3, 7, 69, 70, 71]))))
def c218 : CFn := ⟨219, [.tmp 2],
  (.seq (.region [
    ⟨some 1, .box (.tmp 0), none⟩,
    ⟨some 2, .mov (.const (.str ⟨#[]⟩)), none⟩] [1])
  (.seq (.region [
    ⟨some 3, .mov (.const (.fn 231)), none⟩] [1, 3])
  (.seq (.region [
    ⟨some 11, .faddr (.tmp 1) 4, none⟩,
    ⟨some 12, .load (.tmp 11) 1 false .plain, none⟩,
    ⟨some 13, .call 105 [false] [.tmp 12], none⟩,
    ⟨some 14, .mov (.tmp 13), none⟩,
    ⟨some 15, .faddr (.tmp 1) 4, some (14, true)⟩,
    ⟨some 16, .load (.tmp 15) 1 false .plain, some (14, true)⟩,
    ⟨some 17, .bin .neq (.tmp 16) (.const (.str ⟨#[42]⟩)), some (14, true)⟩,
    ⟨some 18, .pick (.tmp 14) (.tmp 17) (.const (.bool false)), none⟩,
    ⟨some 4, .mov (.tmp 18), none⟩] [1, 3, 4])
  (.seq (.seq (.region [
    ⟨some 19, .faddr (.tmp 1) 1, none⟩,
    ⟨some 20, .load (.tmp 19) 1 false .plain, none⟩,
    ⟨some 21, .call 105 [false] [.tmp 20], none⟩,
    ⟨some 22, .un .not (.tmp 21), none⟩] [1, 3, 4, 22])
  (.cond (.tmp 22)
    (.seq (.region [
      ⟨some 2, .mov (.const (.str ⟨#[]⟩)), none⟩] [2])
    .ret)
    .skip))
  (.seq (.region [
    ⟨some 23, .faddr (.tmp 1) 3, none⟩,
    ⟨some 24, .load (.tmp 23) 1 false .plain, none⟩,
    ⟨some 25, .len false (.tmp 24), none⟩,
    ⟨some 26, .bin .eql (.tmp 25) (.const (.int .i64 0)), none⟩,
    ⟨some 5, .mov (.tmp 26), none⟩] [1, 3, 4, 5])
  (.seq (.region [
    ⟨some 27, .faddr (.tmp 1) 4, none⟩,
    ⟨some 28, .load (.tmp 27) 1 false .plain, none⟩,
    ⟨some 29, .bin .eql (.tmp 28) (.const (.str ⟨#[]⟩)), none⟩,
    ⟨some 30, .mov (.tmp 29), none⟩,
    ⟨some 31, .faddr (.tmp 1) 5, some (30, true)⟩,
    ⟨some 32, .load (.tmp 31) 1 false .plain, some (30, true)⟩,
    ⟨some 33, .bin .eql (.tmp 32) (.const (.str ⟨#[]⟩)), some (30, true)⟩,
    ⟨some 34, .pick (.tmp 30) (.tmp 33) (.const (.bool false)), none⟩,
    ⟨some 35, .mov (.tmp 34), none⟩,
    ⟨some 36, .faddr (.tmp 1) 6, some (35, true)⟩,
    ⟨some 37, .load (.tmp 36) 1 false .plain, some (35, true)⟩,
    ⟨some 38, .bin .eql (.tmp 37) (.const (.int .i64 0)), some (35, true)⟩,
    ⟨some 39, .pick (.tmp 35) (.tmp 38) (.const (.bool false)), none⟩,
    ⟨some 6, .mov (.tmp 39), none⟩] [1, 3, 4, 5, 6])
  (.seq (.seq (.region [
    ⟨some 40, .faddr (.tmp 1) 0, none⟩,
    ⟨some 41, .load (.tmp 40) 1 false .plain, none⟩] [1, 3, 4, 5, 6, 41])
  (.block 0
    (.seq (.region [
      ⟨some 43, .bin .eql (.tmp 41) (.const (.int .i64 1)), none⟩,
      ⟨some 42, .mov (.tmp 43), none⟩] [1, 3, 4, 5, 6, 41, 42])
    (.cond (.tmp 42)
      (.seq (.seq (.region [
        ⟨some 44, .faddr (.tmp 1) 2, none⟩,
        ⟨some 45, .load (.tmp 44) 1 false .plain, none⟩,
        ⟨some 46, .call 85 [false, false, false] [.tmp 45, .const (.int .i64 1), .const (.int .i64 1000000)], none⟩,
        ⟨some 47, .un .not (.tmp 46), none⟩,
        ⟨some 48, .mov (.tmp 47), none⟩,
        ⟨some 49, .faddr (.tmp 1) 3, some (48, false)⟩,
        ⟨some 50, .load (.tmp 49) 1 false .plain, some (48, false)⟩,
        ⟨some 51, .call 6 [false] [.tmp 50], some (48, false)⟩,
        ⟨some 52, .un .not (.tmp 51), some (48, false)⟩,
        ⟨some 53, .pick (.tmp 48) (.const (.bool true)) (.tmp 52), none⟩,
        ⟨some 54, .mov (.tmp 53), none⟩,
        ⟨some 55, .mov (.tmp 6), some (54, false)⟩,
        ⟨some 56, .un .not (.tmp 55), some (54, false)⟩,
        ⟨some 57, .pick (.tmp 54) (.const (.bool true)) (.tmp 56), none⟩] [1, 3, 57])
      (.cond (.tmp 57)
        (.seq (.region [
          ⟨some 2, .mov (.const (.str ⟨#[]⟩)), none⟩] [2])
        .ret)
        .skip))
      (.seq (.quiet [
        ⟨some 58, .faddr (.tmp 1) 1, none⟩,
        ⟨some 59, .load (.tmp 58) 1 false .plain, none⟩,
        ⟨some 60, .bin .add (.const (.str ⟨#[116, 111, 108, 100, 32]⟩)) (.tmp 59), none⟩,
        ⟨some 61, .bin .add (.tmp 60) (.const (.str ⟨#[32]⟩)), none⟩,
        ⟨some 62, .mov (.tmp 3), none⟩,
        ⟨some 63, .faddr (.tmp 1) 2, none⟩,
        ⟨some 64, .load (.tmp 63) 1 false .plain, none⟩,
        ⟨some 65, .callf (.tmp 62) [false] [.tmp 64], none⟩,
        ⟨some 66, .bin .add (.tmp 61) (.tmp 65), none⟩,
        ⟨some 67, .bin .add (.tmp 66) (.const (.str ⟨#[10]⟩)), none⟩,
        ⟨some 7, .mov (.tmp 67), none⟩] [1, 3, 7])
      (.seq (.seq (.region [
        ⟨some 68, .faddr (.tmp 1) 3, none⟩,
        ⟨some 69, .load (.tmp 68) 1 false .plain, none⟩,
        ⟨some 70, .len false (.tmp 69), none⟩,
        ⟨some 71, .mov (.const (.int .i64 0)), none⟩] [3, 7, 69, 70, 71])
      (.block 1
        (.loop [3, 7, 69, 70, 71] c218b0)))
      (.seq (.region [
        ⟨some 110, .mov (.tmp 7), none⟩,
        ⟨some 2, .mov (.tmp 110), none⟩] [2])
      .ret))))
      (.seq (.seq (.region [
        ⟨some 112, .bin .eql (.tmp 41) (.const (.int .i64 2)), none⟩,
        ⟨some 111, .mov (.tmp 112), none⟩] [1, 3, 4, 5, 6, 41, 111])
      (.cond (.tmp 111)
        .skip
        (.seq (.region [
          ⟨some 113, .bin .eql (.tmp 41) (.const (.int .i64 3)), none⟩,
          ⟨some 111, .mov (.tmp 113), none⟩] [1, 3, 4, 5, 6, 41, 111])
        (.cond (.tmp 111)
          .skip
          (.region [
            ⟨some 114, .bin .eql (.tmp 41) (.const (.int .i64 4)), none⟩,
            ⟨some 111, .mov (.tmp 114), none⟩] [1, 3, 4, 5, 6, 41, 111])))))
      (.cond (.tmp 111)
        (.seq (.seq (.region [
          ⟨some 115, .mov (.tmp 4), none⟩,
          ⟨some 116, .un .not (.tmp 115), none⟩,
          ⟨some 117, .mov (.tmp 116), none⟩,
          ⟨some 118, .faddr (.tmp 1) 5, some (117, false)⟩,
          ⟨some 119, .load (.tmp 118) 1 false .plain, some (117, false)⟩,
          ⟨some 120, .call 105 [false] [.tmp 119], some (117, false)⟩,
          ⟨some 121, .un .not (.tmp 120), some (117, false)⟩,
          ⟨some 122, .pick (.tmp 117) (.const (.bool true)) (.tmp 121), none⟩,
          ⟨some 123, .mov (.tmp 122), none⟩,
          ⟨some 124, .faddr (.tmp 1) 6, some (123, false)⟩,
          ⟨some 125, .load (.tmp 124) 1 false .plain, some (123, false)⟩,
          ⟨some 126, .call 85 [false, false, false] [.tmp 125, .const (.int .i64 0), .const (.int .i64 1000000)], some (123, false)⟩,
          ⟨some 127, .un .not (.tmp 126), some (123, false)⟩,
          ⟨some 128, .pick (.tmp 123) (.const (.bool true)) (.tmp 127), none⟩,
          ⟨some 129, .mov (.tmp 128), none⟩,
          ⟨some 130, .faddr (.tmp 1) 2, some (129, false)⟩,
          ⟨some 131, .load (.tmp 130) 1 false .plain, some (129, false)⟩,
          ⟨some 132, .bin .neq (.tmp 131) (.const (.int .i64 0)), some (129, false)⟩,
          ⟨some 133, .pick (.tmp 129) (.const (.bool true)) (.tmp 132), none⟩,
          ⟨some 134, .mov (.tmp 133), none⟩,
          ⟨some 135, .mov (.tmp 5), some (134, false)⟩,
          ⟨some 136, .un .not (.tmp 135), some (134, false)⟩,
          ⟨some 137, .pick (.tmp 134) (.const (.bool true)) (.tmp 136), none⟩] [1, 3, 137])
        (.cond (.tmp 137)
          (.seq (.region [
            ⟨some 2, .mov (.const (.str ⟨#[]⟩)), none⟩] [2])
          .ret)
          .skip))
        (.seq (.loud [
          ⟨some 138, .bslice 1 [.str ⟨#[]⟩] 3 [(0, .const (.str ⟨#[97, 115, 107, 101, 100]⟩)), (1, .const (.str ⟨#[103, 105, 118, 101, 110]⟩)), (2, .const (.str ⟨#[98, 97, 99, 107]⟩))], none⟩,
          ⟨some 139, .faddr (.tmp 1) 0, none⟩,
          ⟨some 140, .load (.tmp 139) 1 false .plain, none⟩,
          ⟨some 141, .bin .sub (.tmp 140) (.const (.int .i64 2)), none⟩,
          ⟨some 142, .iaddr 1 (.tmp 138) (.tmp 141), none⟩,
          ⟨some 143, .load (.tmp 142) 1 false .plain, none⟩,
          ⟨some 144, .faddr (.tmp 1) 1, none⟩,
          ⟨some 145, .load (.tmp 144) 1 false .plain, none⟩,
          ⟨some 146, .faddr (.tmp 1) 4, none⟩,
          ⟨some 147, .load (.tmp 146) 1 false .plain, none⟩,
          ⟨some 148, .faddr (.tmp 1) 5, none⟩,
          ⟨some 149, .load (.tmp 148) 1 false .plain, none⟩,
          ⟨some 150, .mov (.tmp 3), none⟩,
          ⟨some 151, .faddr (.tmp 1) 6, none⟩,
          ⟨some 152, .load (.tmp 151) 1 false .plain, none⟩,
          ⟨some 153, .callf (.tmp 150) [false] [.tmp 152], none⟩,
          ⟨some 154, .bslice 1 [.str ⟨#[]⟩] 5 [(0, .tmp 143), (1, .tmp 145), (2, .tmp 147), (3, .tmp 149), (4, .tmp 153)], none⟩,
          ⟨some 155, .call 230 [false, false] [.tmp 154, .const (.str ⟨#[32]⟩)], none⟩,
          ⟨some 156, .bin .add (.tmp 155) (.const (.str ⟨#[10]⟩)), none⟩,
          ⟨some 2, .mov (.tmp 156), none⟩] [0, 0, 2, 6, 15, 31, 0, 64, 0, 256, 0, 1024, 0, 0, 8192, 28672, 65535, 131071, 262143, 524287] [2])
        .ret))
        (.seq (.region [
          ⟨some 158, .bin .eql (.tmp 41) (.const (.int .i64 5)), none⟩,
          ⟨some 157, .mov (.tmp 158), none⟩] [1, 3, 4, 5, 6, 41, 157])
        (.cond (.tmp 157)
          (.seq (.seq (.region [
            ⟨some 159, .mov (.tmp 4), none⟩,
            ⟨some 160, .un .not (.tmp 159), none⟩,
            ⟨some 161, .mov (.tmp 160), none⟩,
            ⟨some 162, .faddr (.tmp 1) 5, some (161, false)⟩,
            ⟨some 163, .load (.tmp 162) 1 false .plain, some (161, false)⟩,
            ⟨some 164, .bin .neq (.tmp 163) (.const (.str ⟨#[]⟩)), some (161, false)⟩,
            ⟨some 165, .pick (.tmp 161) (.const (.bool true)) (.tmp 164), none⟩,
            ⟨some 166, .mov (.tmp 165), none⟩,
            ⟨some 167, .faddr (.tmp 1) 6, some (166, false)⟩,
            ⟨some 168, .load (.tmp 167) 1 false .plain, some (166, false)⟩,
            ⟨some 169, .call 85 [false, false, false] [.tmp 168, .const (.int .i64 0), .const (.int .i64 1000000)], some (166, false)⟩,
            ⟨some 170, .un .not (.tmp 169), some (166, false)⟩,
            ⟨some 171, .pick (.tmp 166) (.const (.bool true)) (.tmp 170), none⟩,
            ⟨some 172, .mov (.tmp 171), none⟩,
            ⟨some 173, .faddr (.tmp 1) 2, some (172, false)⟩,
            ⟨some 174, .load (.tmp 173) 1 false .plain, some (172, false)⟩,
            ⟨some 175, .bin .neq (.tmp 174) (.const (.int .i64 0)), some (172, false)⟩,
            ⟨some 176, .pick (.tmp 172) (.const (.bool true)) (.tmp 175), none⟩,
            ⟨some 177, .mov (.tmp 176), none⟩,
            ⟨some 178, .mov (.tmp 5), some (177, false)⟩,
            ⟨some 179, .un .not (.tmp 178), some (177, false)⟩,
            ⟨some 180, .pick (.tmp 177) (.const (.bool true)) (.tmp 179), none⟩] [1, 3, 180])
          (.cond (.tmp 180)
            (.seq (.region [
              ⟨some 2, .mov (.const (.str ⟨#[]⟩)), none⟩] [2])
            .ret)
            .skip))
          (.seq (.quiet [
            ⟨some 181, .faddr (.tmp 1) 1, none⟩,
            ⟨some 182, .load (.tmp 181) 1 false .plain, none⟩,
            ⟨some 183, .bin .add (.const (.str ⟨#[103, 111, 116, 98, 97, 99, 107, 32]⟩)) (.tmp 182), none⟩,
            ⟨some 184, .bin .add (.tmp 183) (.const (.str ⟨#[32]⟩)), none⟩,
            ⟨some 185, .faddr (.tmp 1) 4, none⟩,
            ⟨some 186, .load (.tmp 185) 1 false .plain, none⟩,
            ⟨some 187, .bin .add (.tmp 184) (.tmp 186), none⟩,
            ⟨some 188, .bin .add (.tmp 187) (.const (.str ⟨#[32]⟩)), none⟩,
            ⟨some 189, .mov (.tmp 3), none⟩,
            ⟨some 190, .faddr (.tmp 1) 6, none⟩,
            ⟨some 191, .load (.tmp 190) 1 false .plain, none⟩,
            ⟨some 192, .callf (.tmp 189) [false] [.tmp 191], none⟩,
            ⟨some 193, .bin .add (.tmp 188) (.tmp 192), none⟩,
            ⟨some 194, .bin .add (.tmp 193) (.const (.str ⟨#[10]⟩)), none⟩,
            ⟨some 2, .mov (.tmp 194), none⟩] [2])
          .ret))
          (.seq (.region [
            ⟨some 196, .bin .eql (.tmp 41) (.const (.int .i64 6)), none⟩,
            ⟨some 195, .mov (.tmp 196), none⟩] [1, 3, 5, 6, 195])
          (.cond (.tmp 195)
            (.seq (.seq (.region [
              ⟨some 197, .faddr (.tmp 1) 2, none⟩,
              ⟨some 198, .load (.tmp 197) 1 false .plain, none⟩,
              ⟨some 199, .call 85 [false, false, false] [.tmp 198, .const (.int .i64 0), .const (.int .i64 1000000)], none⟩,
              ⟨some 200, .un .not (.tmp 199), none⟩,
              ⟨some 201, .mov (.tmp 200), none⟩,
              ⟨some 202, .mov (.tmp 5), some (201, false)⟩,
              ⟨some 203, .un .not (.tmp 202), some (201, false)⟩,
              ⟨some 204, .pick (.tmp 201) (.const (.bool true)) (.tmp 203), none⟩,
              ⟨some 205, .mov (.tmp 204), none⟩,
              ⟨some 206, .mov (.tmp 6), some (205, false)⟩,
              ⟨some 207, .un .not (.tmp 206), some (205, false)⟩,
              ⟨some 208, .pick (.tmp 205) (.const (.bool true)) (.tmp 207), none⟩] [1, 3, 208])
            (.cond (.tmp 208)
              (.seq (.region [
                ⟨some 2, .mov (.const (.str ⟨#[]⟩)), none⟩] [2])
              .ret)
              .skip))
            (.seq (.quiet [
              ⟨some 209, .faddr (.tmp 1) 1, none⟩,
              ⟨some 210, .load (.tmp 209) 1 false .plain, none⟩,
              ⟨some 211, .bin .add (.const (.str ⟨#[104, 101, 114, 101, 32]⟩)) (.tmp 210), none⟩,
              ⟨some 212, .bin .add (.tmp 211) (.const (.str ⟨#[32]⟩)), none⟩,
              ⟨some 213, .mov (.tmp 3), none⟩,
              ⟨some 214, .faddr (.tmp 1) 2, none⟩,
              ⟨some 215, .load (.tmp 214) 1 false .plain, none⟩,
              ⟨some 216, .callf (.tmp 213) [false] [.tmp 215], none⟩,
              ⟨some 217, .bin .add (.tmp 212) (.tmp 216), none⟩,
              ⟨some 218, .bin .add (.tmp 217) (.const (.str ⟨#[10]⟩)), none⟩,
              ⟨some 2, .mov (.tmp 218), none⟩] [2])
            .ret))
            .skip))))))))))
  (.seq (.region [
    ⟨some 2, .mov (.const (.str ⟨#[]⟩)), none⟩] [2])
  .ret))))))))⟩
-- spec.l7Number
def c226b0 : CCode := (.seq (.seq (.region [
    ⟨some 13, .mov (.tmp 4), none⟩,
    ⟨some 14, .mov (.tmp 0), none⟩,
    ⟨some 15, .len true (.tmp 14), none⟩,
    ⟨some 16, .bin .lss (.tmp 13) (.tmp 15), none⟩] [0, 3, 4, 16])
  (.cond (.tmp 16)
    .skip
    (.exit 0)))
  (.seq (.block 1
    (.seq (.seq (.region [
      ⟨some 19, .mov (.tmp 0), none⟩,
      ⟨some 20, .mov (.tmp 4), none⟩,
      ⟨some 21, .sidx (.tmp 19) (.tmp 20), none⟩,
      ⟨some 22, .bin .lss (.tmp 21) (.const (.int .u8 48)), none⟩,
      ⟨some 23, .mov (.tmp 22), none⟩,
      ⟨some 24, .mov (.tmp 0), some (23, false)⟩,
      ⟨some 25, .mov (.tmp 4), some (23, false)⟩,
      ⟨some 26, .sidx (.tmp 24) (.tmp 25), some (23, false)⟩,
      ⟨some 27, .bin .gtr (.tmp 26) (.const (.int .u8 57)), some (23, false)⟩,
      ⟨some 28, .pick (.tmp 23) (.const (.bool true)) (.tmp 27), none⟩] [0, 3, 4, 28])
    (.cond (.tmp 28)
      (.seq (.region [
        ⟨some 2, .mov (.const (.int .i64 (-1))), none⟩] [2])
      .ret)
      .skip))
    (.region [
      ⟨some 29, .mov (.tmp 3), none⟩,
      ⟨some 30, .bin .mul (.tmp 29) (.const (.int .i64 10)), none⟩,
      ⟨some 31, .mov (.tmp 0), none⟩,
      ⟨some 32, .mov (.tmp 4), none⟩,
      ⟨some 33, .sidx (.tmp 31) (.tmp 32), none⟩,
      ⟨some 34, .bin .sub (.tmp 33) (.const (.int .u8 48)), none⟩,
      ⟨some 35, .conv .i64 (.tmp 34), none⟩,
      ⟨some 36, .bin .add (.tmp 30) (.tmp 35), none⟩,
      ⟨some 3, .mov (.tmp 36), none⟩] [0, 3, 4])))
  (.region [
    ⟨some 17, .mov (.tmp 4), none⟩,
    ⟨some 18, .bin .add (.tmp 17) (.const (.int .i64 1)), none⟩,
    ⟨some 4, .mov (.tmp 18), none⟩] [0, 3, 4])))
def c226 : CFn := ⟨42, [.tmp 2],
  (.seq (.region [
    ⟨some 2, .mov (.const (.int .i64 0)), none⟩] [0])
  (.seq (.region [
    ⟨some 3, .mov (.const (.int .i64 0)), none⟩] [0, 3])
  (.seq (.seq (.region [
    ⟨some 5, .mov (.tmp 0), none⟩,
    ⟨some 6, .len true (.tmp 5), none⟩,
    ⟨some 7, .bin .lss (.tmp 6) (.const (.int .i64 1)), none⟩,
    ⟨some 8, .mov (.tmp 7), none⟩,
    ⟨some 9, .mov (.tmp 0), some (8, false)⟩,
    ⟨some 10, .len true (.tmp 9), some (8, false)⟩,
    ⟨some 11, .bin .gtr (.tmp 10) (.const (.int .i64 7)), some (8, false)⟩,
    ⟨some 12, .pick (.tmp 8) (.const (.bool true)) (.tmp 11), none⟩] [0, 3, 12])
  (.cond (.tmp 12)
    (.seq (.region [
      ⟨some 2, .mov (.const (.int .i64 (-1))), none⟩] [2])
    .ret)
    .skip))
  (.seq (.seq (.region [
    ⟨some 4, .mov (.const (.int .i64 0)), none⟩] [0, 3, 4])
  (.block 0
    (.loop [0, 3, 4] c226b0)))
  (.seq (.seq (.region [
    ⟨some 37, .mov (.tmp 3), none⟩,
    ⟨some 38, .call 140 [false] [.tmp 37], none⟩,
    ⟨some 39, .mov (.tmp 0), none⟩,
    ⟨some 40, .bin .neq (.tmp 38) (.tmp 39), none⟩] [3, 40])
  (.cond (.tmp 40)
    (.seq (.region [
      ⟨some 2, .mov (.const (.int .i64 (-1))), none⟩] [2])
    .ret)
    .skip))
  (.seq (.region [
    ⟨some 41, .mov (.tmp 3), none⟩,
    ⟨some 2, .mov (.tmp 41), none⟩] [2])
  .ret))))))⟩
-- spec.MateRead
def c235b0 : CCode := (.seq (.seq (.region [
    ⟨some 29, .mov (.tmp 7), none⟩,
    ⟨some 30, .bin .add (.tmp 29) (.const (.int .i64 1)), none⟩,
    ⟨some 31, .mov (.tmp 4), none⟩,
    ⟨some 32, .len false (.tmp 31), none⟩,
    ⟨some 33, .bin .lss (.tmp 30) (.tmp 32), none⟩] [0, 2, 4, 6, 7, 33])
  (.cond (.tmp 33)
    .skip
    (.exit 1)))
  (.seq (.block 2
    (.seq (.region [
      ⟨some 36, .mov (.tmp 4), none⟩,
      ⟨some 37, .mov (.tmp 7), none⟩,
      ⟨some 38, .iaddr 1 (.tmp 36) (.tmp 37), none⟩,
      ⟨some 39, .load (.tmp 38) 1 false .plain, none⟩,
      ⟨some 40, .call 194 [false, false] [.tmp 39, .const (.int .u8 32)], none⟩,
      ⟨some 8, .mov (.tmp 40), none⟩] [0, 2, 4, 6, 7, 8])
    (.seq (.region [
      ⟨some 41, .mov (.tmp 8), none⟩,
      ⟨some 42, .call 239 [false, false] [.tmp 41, .const (.int .i64 1)], none⟩,
      ⟨some 43, .mov (.tmp 8), none⟩,
      ⟨some 44, .call 239 [false, false] [.tmp 43, .const (.int .i64 2)], none⟩,
      ⟨some 45, .call 226 [false] [.tmp 44], none⟩,
      ⟨some 46, .mov (.tmp 8), none⟩,
      ⟨some 47, .call 239 [false, false] [.tmp 46, .const (.int .i64 3)], none⟩,
      ⟨some 48, .mov (.tmp 8), none⟩,
      ⟨some 49, .call 239 [false, false] [.tmp 48, .const (.int .i64 4)], none⟩,
      ⟨some 50, .call 226 [false] [.tmp 49], none⟩,
      ⟨some 51, .mov (.tmp 8), none⟩,
      ⟨some 52, .call 239 [false, false] [.tmp 51, .const (.int .i64 5)], none⟩,
      ⟨some 53, .call 226 [false] [.tmp 52], none⟩,
      ⟨some 54, .mov (.tmp 8), none⟩,
      ⟨some 55, .call 239 [false, false] [.tmp 54, .const (.int .i64 6)], none⟩,
      ⟨some 56, .call 226 [false] [.tmp 55], none⟩,
      ⟨some 57, .mov (.tmp 8), none⟩,
      ⟨some 58, .call 239 [false, false] [.tmp 57, .const (.int .i64 7)], none⟩,
      ⟨some 59, .call 226 [false] [.tmp 58], none⟩,
      ⟨some 60, .build [.str ⟨#[]⟩, .int .i64 0, .str ⟨#[]⟩, .int .i64 0, .int .i64 0, .int .i64 0, .int .i64 0] [(0, 1, .tmp 42), (1, 1, .tmp 45), (2, 1, .tmp 47), (3, 1, .tmp 50), (4, 1, .tmp 53), (5, 1, .tmp 56), (6, 1, .tmp 59)], none⟩,
      ⟨some 9, .alloc [.str ⟨#[]⟩, .int .i64 0, .str ⟨#[]⟩, .int .i64 0, .int .i64 0, .int .i64 0, .int .i64 0], none⟩,
      ⟨none, .store (.tmp 9) (.tmp 60) 7, none⟩] [0, 2, 4, 6, 7, 9])
    (.seq (.seq (.region [
      ⟨some 61, .faddr (.tmp 9) 2, none⟩,
      ⟨some 62, .load (.tmp 61) 1 false .plain, none⟩,
      ⟨some 63, .bin .eql (.tmp 62) (.const (.str ⟨#[42]⟩)), none⟩] [0, 2, 4, 6, 7, 9, 63])
    (.cond (.tmp 63)
      (.region [
        ⟨some 64, .faddr (.tmp 9) 2, none⟩,
        ⟨none, .store (.tmp 64) (.const (.str ⟨#[]⟩)) 1, none⟩] [0, 2, 4, 6, 7, 9])
      .skip))
    (.region [
      ⟨some 65, .faddr (.tmp 6) 3, none⟩,
      ⟨some 66, .load (.tmp 65) 1 false .plain, none⟩,
      ⟨some 67, .load (.tmp 9) 7 true .plain, none⟩,
      ⟨some 68, .bslice 7 [.str ⟨#[]⟩, .int .i64 0, .str ⟨#[]⟩, .int .i64 0, .int .i64 0, .int .i64 0, .int .i64 0] 1 [(0, .tmp 67)], none⟩,
      ⟨some 69, .append 7 72 true (.tmp 66) (.tmp 68), none⟩,
      ⟨some 70, .faddr (.tmp 6) 3, none⟩,
      ⟨none, .store (.tmp 70) (.tmp 69) 1, none⟩] [0, 2, 4, 6, 7])))))
  (.region [
    ⟨some 34, .mov (.tmp 7), none⟩,
    ⟨some 35, .bin .add (.tmp 34) (.const (.int .i64 1)), none⟩,
    ⟨some 7, .mov (.tmp 35), none⟩] [0, 2, 4, 6, 7])))
def c235 : CFn := ⟨123, [.cell 2 7 true, .tmp 3],
  (.seq (.region [
    ⟨some 2, .alloc [.int .i64 0, .str ⟨#[]⟩, .int .i64 0, .sl .own 7 [], .str ⟨#[]⟩, .str ⟨#[]⟩, .int .i64 0], none⟩,
    ⟨some 3, .mov (.const (.bool false)), none⟩] [0, 2])
  (.seq (.region [
    ⟨some 10, .mov (.tmp 0), none⟩,
    ⟨some 11, .call 194 [false, false] [.tmp 10, .const (.int .u8 10)], none⟩,
    ⟨some 4, .mov (.tmp 11), none⟩] [0, 2, 4])
  (.seq (.region [
    ⟨some 12, .mov (.tmp 4), none⟩,
    ⟨some 13, .iaddr 1 (.tmp 12) (.const (.int .i64 0)), none⟩,
    ⟨some 14, .load (.tmp 13) 1 false .plain, none⟩,
    ⟨some 15, .call 194 [false, false] [.tmp 14, .const (.int .u8 32)], none⟩,
    ⟨some 5, .mov (.tmp 15), none⟩] [0, 2, 4, 5])
  (.seq (.region [
    ⟨some 16, .mov (.tmp 5), none⟩,
    ⟨some 17, .call 239 [false, false] [.tmp 16, .const (.int .i64 1)], none⟩,
    ⟨some 18, .build [.int .i64 0, .str ⟨#[]⟩, .int .i64 0, .sl .own 7 [], .str ⟨#[]⟩, .str ⟨#[]⟩, .int .i64 0] [(1, 1, .tmp 17)], none⟩,
    ⟨some 6, .alloc [.int .i64 0, .str ⟨#[]⟩, .int .i64 0, .sl .own 7 [], .str ⟨#[]⟩, .str ⟨#[]⟩, .int .i64 0], none⟩,
    ⟨none, .store (.tmp 6) (.tmp 18) 7, none⟩] [0, 2, 4, 5, 6])
  (.seq (.seq (.region [
    ⟨some 19, .mov (.tmp 5), none⟩,
    ⟨some 20, .iaddr 1 (.tmp 19) (.const (.int .i64 0)), none⟩,
    ⟨some 21, .load (.tmp 20) 1 false .plain, none⟩] [0, 2, 4, 5, 6, 21])
  (.block 0
    (.seq (.region [
      ⟨some 23, .bin .eql (.tmp 21) (.const (.str ⟨#[116, 111, 108, 100]⟩)), none⟩,
      ⟨some 22, .mov (.tmp 23), none⟩] [0, 2, 4, 5, 6, 21, 22])
    (.cond (.tmp 22)
      (.seq (.region [
        ⟨some 24, .faddr (.tmp 6) 0, none⟩,
        ⟨none, .store (.tmp 24) (.const (.int .i64 1)) 1, none⟩] [0, 2, 4, 5, 6])
      (.seq (.region [
        ⟨some 25, .mov (.tmp 5), none⟩,
        ⟨some 26, .call 239 [false, false] [.tmp 25, .const (.int .i64 2)], none⟩,
        ⟨some 27, .call 226 [false] [.tmp 26], none⟩,
        ⟨some 28, .faddr (.tmp 6) 2, none⟩,
        ⟨none, .store (.tmp 28) (.tmp 27) 1, none⟩] [0, 2, 4, 6])
      (.seq (.region [
        ⟨some 7, .mov (.const (.int .i64 1)), none⟩] [0, 2, 4, 6, 7])
      (.block 1
        (.loop [0, 2, 4, 6, 7] c235b0)))))
      (.seq (.seq (.region [
        ⟨some 72, .bin .eql (.tmp 21) (.const (.str ⟨#[97, 115, 107, 101, 100]⟩)), none⟩,
        ⟨some 71, .mov (.tmp 72), none⟩] [0, 2, 5, 6, 21, 71])
      (.cond (.tmp 71)
        .skip
        (.seq (.region [
          ⟨some 73, .bin .eql (.tmp 21) (.const (.str ⟨#[103, 105, 118, 101, 110]⟩)), none⟩,
          ⟨some 71, .mov (.tmp 73), none⟩] [0, 2, 5, 6, 21, 71])
        (.cond (.tmp 71)
          .skip
          (.region [
            ⟨some 74, .bin .eql (.tmp 21) (.const (.str ⟨#[98, 97, 99, 107]⟩)), none⟩,
            ⟨some 71, .mov (.tmp 74), none⟩] [0, 2, 5, 6, 21, 71])))))
      (.cond (.tmp 71)
        (.seq (.region [
          ⟨some 75, .faddr (.tmp 6) 0, none⟩,
          ⟨none, .store (.tmp 75) (.const (.int .i64 2)) 1, none⟩] [0, 2, 5, 6])
        (.seq (.seq (.region [
          ⟨some 76, .mov (.tmp 5), none⟩,
          ⟨some 77, .iaddr 1 (.tmp 76) (.const (.int .i64 0)), none⟩,
          ⟨some 78, .load (.tmp 77) 1 false .plain, none⟩,
          ⟨some 79, .bin .eql (.tmp 78) (.const (.str ⟨#[103, 105, 118, 101, 110]⟩)), none⟩] [0, 2, 5, 6, 79])
        (.cond (.tmp 79)
          (.region [
            ⟨some 80, .faddr (.tmp 6) 0, none⟩,
            ⟨none, .store (.tmp 80) (.const (.int .i64 3)) 1, none⟩] [0, 2, 5, 6])
          .skip))
        (.seq (.seq (.region [
          ⟨some 81, .mov (.tmp 5), none⟩,
          ⟨some 82, .iaddr 1 (.tmp 81) (.const (.int .i64 0)), none⟩,
          ⟨some 83, .load (.tmp 82) 1 false .plain, none⟩,
          ⟨some 84, .bin .eql (.tmp 83) (.const (.str ⟨#[98, 97, 99, 107]⟩)), none⟩] [0, 2, 5, 6, 84])
        (.cond (.tmp 84)
          (.region [
            ⟨some 85, .faddr (.tmp 6) 0, none⟩,
            ⟨none, .store (.tmp 85) (.const (.int .i64 4)) 1, none⟩] [0, 2, 5, 6])
          .skip))
        (.seq (.region [
          ⟨some 86, .mov (.tmp 5), none⟩,
          ⟨some 87, .call 239 [false, false] [.tmp 86, .const (.int .i64 2)], none⟩,
          ⟨some 88, .faddr (.tmp 6) 4, none⟩,
          ⟨none, .store (.tmp 88) (.tmp 87) 1, none⟩] [0, 2, 5, 6])
        (.seq (.region [
          ⟨some 89, .mov (.tmp 5), none⟩,
          ⟨some 90, .call 239 [false, false] [.tmp 89, .const (.int .i64 3)], none⟩,
          ⟨some 91, .faddr (.tmp 6) 5, none⟩,
          ⟨none, .store (.tmp 91) (.tmp 90) 1, none⟩] [0, 2, 5, 6])
        (.region [
          ⟨some 92, .mov (.tmp 5), none⟩,
          ⟨some 93, .call 239 [false, false] [.tmp 92, .const (.int .i64 4)], none⟩,
          ⟨some 94, .call 226 [false] [.tmp 93], none⟩,
          ⟨some 95, .faddr (.tmp 6) 6, none⟩,
          ⟨none, .store (.tmp 95) (.tmp 94) 1, none⟩] [0, 2, 6]))))))
        (.seq (.region [
          ⟨some 97, .bin .eql (.tmp 21) (.const (.str ⟨#[103, 111, 116, 98, 97, 99, 107]⟩)), none⟩,
          ⟨some 96, .mov (.tmp 97), none⟩] [0, 2, 5, 6, 21, 96])
        (.cond (.tmp 96)
          (.seq (.region [
            ⟨some 98, .faddr (.tmp 6) 0, none⟩,
            ⟨none, .store (.tmp 98) (.const (.int .i64 5)) 1, none⟩] [0, 2, 5, 6])
          (.seq (.region [
            ⟨some 99, .mov (.tmp 5), none⟩,
            ⟨some 100, .call 239 [false, false] [.tmp 99, .const (.int .i64 2)], none⟩,
            ⟨some 101, .faddr (.tmp 6) 4, none⟩,
            ⟨none, .store (.tmp 101) (.tmp 100) 1, none⟩] [0, 2, 5, 6])
          (.region [
            ⟨some 102, .mov (.tmp 5), none⟩,
            ⟨some 103, .call 239 [false, false] [.tmp 102, .const (.int .i64 3)], none⟩,
            ⟨some 104, .call 226 [false] [.tmp 103], none⟩,
            ⟨some 105, .faddr (.tmp 6) 6, none⟩,
            ⟨none, .store (.tmp 105) (.tmp 104) 1, none⟩] [0, 2, 6])))
          (.seq (.region [
            ⟨some 107, .bin .eql (.tmp 21) (.const (.str ⟨#[104, 101, 114, 101]⟩)), none⟩,
            ⟨some 106, .mov (.tmp 107), none⟩] [0, 2, 5, 6, 106])
          (.cond (.tmp 106)
            (.seq (.region [
              ⟨some 108, .faddr (.tmp 6) 0, none⟩,
              ⟨none, .store (.tmp 108) (.const (.int .i64 6)) 1, none⟩] [0, 2, 5, 6])
            (.region [
              ⟨some 109, .mov (.tmp 5), none⟩,
              ⟨some 110, .call 239 [false, false] [.tmp 109, .const (.int .i64 2)], none⟩,
              ⟨some 111, .call 226 [false] [.tmp 110], none⟩,
              ⟨some 112, .faddr (.tmp 6) 2, none⟩,
              ⟨none, .store (.tmp 112) (.tmp 111) 1, none⟩] [0, 2, 6]))
            .skip))))))))))
  (.seq (.seq (.region [
    ⟨some 113, .mov (.tmp 0), none⟩,
    ⟨some 114, .bin .eql (.tmp 113) (.const (.str ⟨#[]⟩)), none⟩,
    ⟨some 115, .mov (.tmp 114), none⟩,
    ⟨some 116, .load (.tmp 6) 7 true .plain, some (115, false)⟩,
    ⟨some 117, .call 236 [false] [.tmp 116], some (115, false)⟩,
    ⟨some 118, .mov (.tmp 0), some (115, false)⟩,
    ⟨some 119, .bin .neq (.tmp 117) (.tmp 118), some (115, false)⟩,
    ⟨some 120, .pick (.tmp 115) (.const (.bool true)) (.tmp 119), none⟩] [2, 6, 120])
  (.cond (.tmp 120)
    (.seq (.region [
      ⟨some 121, .build [.int .i64 0, .str ⟨#[]⟩, .int .i64 0, .sl .own 7 [], .str ⟨#[]⟩, .str ⟨#[]⟩, .int .i64 0] [], none⟩,
      ⟨none, .store (.tmp 2) (.tmp 121) 7, none⟩,
      ⟨some 3, .mov (.const (.bool false)), none⟩] [2, 3])
    .ret)
    .skip))
  (.seq (.region [
    ⟨some 122, .load (.tmp 6) 7 true .plain, none⟩,
    ⟨none, .store (.tmp 2) (.tmp 122) 7, none⟩,
    ⟨some 3, .mov (.const (.bool true)), none⟩] [2, 3])
  .ret)))))))⟩
-- spec.MateForm
def c236b0 : CCode := (.seq (.seq (.region [
    ⟨some 80, .mov (.tmp 5), none⟩,
    ⟨some 81, .faddr (.tmp 1) 3, none⟩,
    ⟨some 82, .load (.tmp 81) 1 false .plain, none⟩,
    ⟨some 83, .len false (.tmp 82), none⟩,
    ⟨some 84, .bin .lss (.tmp 80) (.tmp 83), none⟩] [1, 4, 5, 84])
  (.cond (.tmp 84)
    .skip
    (.exit 1)))
  (.seq (.block 2
    (.region [
      ⟨some 87, .mov (.tmp 4), none⟩,
      ⟨some 88, .faddr (.tmp 1) 3, none⟩,
      ⟨some 89, .load (.tmp 88) 1 false .plain, none⟩,
      ⟨some 90, .mov (.tmp 5), none⟩,
      ⟨some 91, .iaddr 7 (.tmp 89) (.tmp 90), none⟩,
      ⟨some 92, .load (.tmp 91) 7 true .plain, none⟩,
      ⟨some 93, .call 240 [false] [.tmp 92], none⟩,
      ⟨some 94, .bin .add (.tmp 87) (.tmp 93), none⟩,
      ⟨some 4, .mov (.tmp 94), none⟩] [1, 4, 5]))
  (.region [
    ⟨some 85, .mov (.tmp 5), none⟩,
    ⟨some 86, .bin .add (.tmp 85) (.const (.int .i64 1)), none⟩,
    ⟨some 5, .mov (.tmp 86), none⟩] [1, 4, 5])))
def c236 : CFn := ⟨179, [.tmp 2],
  (.seq (.region [
    ⟨some 1, .box (.tmp 0), none⟩,
    ⟨some 2, .mov (.const (.str ⟨#[]⟩)), none⟩] [1])
  (.seq (.seq (.region [
    ⟨some 6, .faddr (.tmp 1) 1, none⟩,
    ⟨some 7, .load (.tmp 6) 1 false .plain, none⟩,
    ⟨some 8, .call 101 [false] [.tmp 7], none⟩,
    ⟨some 9, .un .not (.tmp 8), none⟩] [1, 9])
  (.cond (.tmp 9)
    (.seq (.region [
      ⟨some 2, .mov (.const (.str ⟨#[]⟩)), none⟩] [2])
    .ret)
    .skip))
  (.seq (.region [
    ⟨some 10, .faddr (.tmp 1) 4, none⟩,
    ⟨some 11, .load (.tmp 10) 1 false .plain, none⟩,
    ⟨some 12, .call 100 [false] [.tmp 11], none⟩,
    ⟨some 13, .mov (.tmp 12), none⟩,
    ⟨some 14, .faddr (.tmp 1) 6, some (13, true)⟩,
    ⟨some 15, .load (.tmp 14) 1 false .plain, some (13, true)⟩,
    ⟨some 16, .call 102 [false, false, false] [.tmp 15, .const (.int .i64 0), .const (.int .i64 1000000)], some (13, true)⟩,
    ⟨some 17, .pick (.tmp 13) (.tmp 16) (.const (.bool false)), none⟩,
    ⟨some 3, .mov (.tmp 17), none⟩] [1, 3])
  (.seq (.seq (.region [
    ⟨some 18, .faddr (.tmp 1) 0, none⟩,
    ⟨some 19, .load (.tmp 18) 1 false .plain, none⟩,
    ⟨some 20, .bin .neq (.tmp 19) (.const (.int .i64 1)), none⟩,
    ⟨some 21, .mov (.tmp 20), none⟩,
    ⟨some 22, .faddr (.tmp 1) 3, some (21, true)⟩,
    ⟨some 23, .load (.tmp 22) 1 false .plain, some (21, true)⟩,
    ⟨some 24, .len false (.tmp 23), some (21, true)⟩,
    ⟨some 25, .bin .gtr (.tmp 24) (.const (.int .i64 0)), some (21, true)⟩,
    ⟨some 26, .pick (.tmp 21) (.tmp 25) (.const (.bool false)), none⟩,
    ⟨some 27, .mov (.tmp 26), none⟩,
    ⟨some 28, .faddr (.tmp 1) 0, some (27, false)⟩,
    ⟨some 29, .load (.tmp 28) 1 false .plain, some (27, false)⟩,
    ⟨some 30, .bin .neq (.tmp 29) (.const (.int .i64 1)), some (27, false)⟩,
    ⟨some 31, .mov (.tmp 30), some (27, false)⟩,
    ⟨some 32, .faddr (.tmp 1) 0, some (31, true)⟩,
    ⟨some 33, .load (.tmp 32) 1 false .plain, some (31, true)⟩,
    ⟨some 34, .bin .neq (.tmp 33) (.const (.int .i64 6)), some (31, true)⟩,
    ⟨some 35, .pick (.tmp 31) (.tmp 34) (.const (.bool false)), some (27, false)⟩,
    ⟨some 36, .mov (.tmp 35), some (27, false)⟩,
    ⟨some 37, .faddr (.tmp 1) 2, some (36, true)⟩,
    ⟨some 38, .load (.tmp 37) 1 false .plain, some (36, true)⟩,
    ⟨some 39, .bin .neq (.tmp 38) (.const (.int .i64 0)), some (36, true)⟩,
    ⟨some 40, .pick (.tmp 36) (.tmp 39) (.const (.bool false)), some (27, false)⟩,
    ⟨some 41, .pick (.tmp 27) (.const (.bool true)) (.tmp 40), none⟩] [1, 3, 41])
  (.cond (.tmp 41)
    (.seq (.region [
      ⟨some 2, .mov (.const (.str ⟨#[]⟩)), none⟩] [2])
    .ret)
    .skip))
  (.seq (.seq (.region [
    ⟨some 42, .faddr (.tmp 1) 0, none⟩,
    ⟨some 43, .load (.tmp 42) 1 false .plain, none⟩] [1, 3, 43])
  (.block 0
    (.seq (.region [
      ⟨some 45, .bin .eql (.tmp 43) (.const (.int .i64 1)), none⟩,
      ⟨some 44, .mov (.tmp 45), none⟩] [1, 3, 43, 44])
    (.cond (.tmp 44)
      (.seq (.seq (.region [
        ⟨some 46, .faddr (.tmp 1) 3, none⟩,
        ⟨some 47, .load (.tmp 46) 1 false .plain, none⟩,
        ⟨some 48, .call 7 [false] [.tmp 47], none⟩,
        ⟨some 49, .un .not (.tmp 48), none⟩,
        ⟨some 50, .mov (.tmp 49), none⟩,
        ⟨some 51, .faddr (.tmp 1) 2, some (50, false)⟩,
        ⟨some 52, .load (.tmp 51) 1 false .plain, some (50, false)⟩,
        ⟨some 53, .call 102 [false, false, false] [.tmp 52, .const (.int .i64 1), .const (.int .i64 1000000)], some (50, false)⟩,
        ⟨some 54, .un .not (.tmp 53), some (50, false)⟩,
        ⟨some 55, .pick (.tmp 50) (.const (.bool true)) (.tmp 54), none⟩,
        ⟨some 56, .mov (.tmp 55), none⟩,
        ⟨some 57, .faddr (.tmp 1) 4, some (56, false)⟩,
        ⟨some 58, .load (.tmp 57) 1 false .plain, some (56, false)⟩,
        ⟨some 59, .bin .neq (.tmp 58) (.const (.str ⟨#[]⟩)), some (56, false)⟩,
        ⟨some 60, .pick (.tmp 56) (.const (.bool true)) (.tmp 59), none⟩,
        ⟨some 61, .mov (.tmp 60), none⟩,
        ⟨some 62, .faddr (.tmp 1) 5, some (61, false)⟩,
        ⟨some 63, .load (.tmp 62) 1 false .plain, some (61, false)⟩,
        ⟨some 64, .bin .neq (.tmp 63) (.const (.str ⟨#[]⟩)), some (61, false)⟩,
        ⟨some 65, .pick (.tmp 61) (.const (.bool true)) (.tmp 64), none⟩,
        ⟨some 66, .mov (.tmp 65), none⟩,
        ⟨some 67, .faddr (.tmp 1) 6, some (66, false)⟩,
        ⟨some 68, .load (.tmp 67) 1 false .plain, some (66, false)⟩,
        ⟨some 69, .bin .neq (.tmp 68) (.const (.int .i64 0)), some (66, false)⟩,
        ⟨some 70, .pick (.tmp 66) (.const (.bool true)) (.tmp 69), none⟩] [1, 70])
      (.cond (.tmp 70)
        (.seq (.region [
          ⟨some 2, .mov (.const (.str ⟨#[]⟩)), none⟩] [2])
        .ret)
        .skip))
      (.seq (.quiet [
        ⟨some 71, .faddr (.tmp 1) 1, none⟩,
        ⟨some 72, .load (.tmp 71) 1 false .plain, none⟩,
        ⟨some 73, .bin .add (.const (.str ⟨#[116, 111, 108, 100, 32]⟩)) (.tmp 72), none⟩,
        ⟨some 74, .bin .add (.tmp 73) (.const (.str ⟨#[32]⟩)), none⟩,
        ⟨some 75, .faddr (.tmp 1) 2, none⟩,
        ⟨some 76, .load (.tmp 75) 1 false .plain, none⟩,
        ⟨some 77, .call 140 [false] [.tmp 76], none⟩,
        ⟨some 78, .bin .add (.tmp 74) (.tmp 77), none⟩,
        ⟨some 79, .bin .add (.tmp 78) (.const (.str ⟨#[10]⟩)), none⟩,
        ⟨some 4, .mov (.tmp 79), none⟩] [1, 4])
      (.seq (.seq (.region [
        ⟨some 5, .mov (.const (.int .i64 0)), none⟩] [1, 4, 5])
      (.block 1
        (.loop [1, 4, 5] c236b0)))
      (.seq (.region [
        ⟨some 95, .mov (.tmp 4), none⟩,
        ⟨some 2, .mov (.tmp 95), none⟩] [2])
      .ret))))
      (.seq (.seq (.region [
        ⟨some 97, .bin .eql (.tmp 43) (.const (.int .i64 2)), none⟩,
        ⟨some 96, .mov (.tmp 97), none⟩] [1, 3, 43, 96])
      (.cond (.tmp 96)
        .skip
        (.seq (.region [
          ⟨some 98, .bin .eql (.tmp 43) (.const (.int .i64 3)), none⟩,
          ⟨some 96, .mov (.tmp 98), none⟩] [1, 3, 43, 96])
        (.cond (.tmp 96)
          .skip
          (.region [
            ⟨some 99, .bin .eql (.tmp 43) (.const (.int .i64 4)), none⟩,
            ⟨some 96, .mov (.tmp 99), none⟩] [1, 3, 43, 96])))))
      (.cond (.tmp 96)
        (.seq (.region [
          ⟨some 100, .mov (.tmp 3), none⟩,
          ⟨some 101, .mov (.tmp 100), none⟩,
          ⟨some 102, .faddr (.tmp 1) 5, some (101, true)⟩,
          ⟨some 103, .load (.tmp 102) 1 false .plain, some (101, true)⟩,
          ⟨some 104, .call 101 [false] [.tmp 103], some (101, true)⟩,
          ⟨some 105, .pick (.tmp 101) (.tmp 104) (.const (.bool false)), none⟩] [1, 105])
        (.cond (.tmp 105)
          (.seq (.loud [
            ⟨some 106, .bslice 1 [.str ⟨#[]⟩] 3 [(0, .const (.str ⟨#[97, 115, 107, 101, 100, 32]⟩)), (1, .const (.str ⟨#[103, 105, 118, 101, 110, 32]⟩)), (2, .const (.str ⟨#[98, 97, 99, 107, 32]⟩))], none⟩,
            ⟨some 107, .faddr (.tmp 1) 0, none⟩,
            ⟨some 108, .load (.tmp 107) 1 false .plain, none⟩,
            ⟨some 109, .bin .sub (.tmp 108) (.const (.int .i64 2)), none⟩,
            ⟨some 110, .iaddr 1 (.tmp 106) (.tmp 109), none⟩,
            ⟨some 111, .load (.tmp 110) 1 false .plain, none⟩,
            ⟨some 112, .faddr (.tmp 1) 1, none⟩,
            ⟨some 113, .load (.tmp 112) 1 false .plain, none⟩,
            ⟨some 114, .bin .add (.tmp 111) (.tmp 113), none⟩,
            ⟨some 115, .bin .add (.tmp 114) (.const (.str ⟨#[32]⟩)), none⟩,
            ⟨some 116, .faddr (.tmp 1) 4, none⟩,
            ⟨some 117, .load (.tmp 116) 1 false .plain, none⟩,
            ⟨some 118, .bin .add (.tmp 115) (.tmp 117), none⟩,
            ⟨some 119, .bin .add (.tmp 118) (.const (.str ⟨#[32]⟩)), none⟩,
            ⟨some 120, .faddr (.tmp 1) 5, none⟩,
            ⟨some 121, .load (.tmp 120) 1 false .plain, none⟩,
            ⟨some 122, .bin .add (.tmp 119) (.tmp 121), none⟩,
            ⟨some 123, .bin .add (.tmp 122) (.const (.str ⟨#[32]⟩)), none⟩,
            ⟨some 124, .faddr (.tmp 1) 6, none⟩,
            ⟨some 125, .load (.tmp 124) 1 false .plain, none⟩,
            ⟨some 126, .call 140 [false] [.tmp 125], none⟩,
            ⟨some 127, .bin .add (.tmp 123) (.tmp 126), none⟩,
            ⟨some 128, .bin .add (.tmp 127) (.const (.str ⟨#[10]⟩)), none⟩,
            ⟨some 2, .mov (.tmp 128), none⟩] [0, 0, 2, 6, 15, 31, 0, 64, 255, 511, 0, 1024, 4095, 8191, 0, 16384, 65535, 131071, 0, 262144, 786432, 2097151, 4194303, 8388607] [2])
          .ret)
          .skip))
        (.seq (.region [
          ⟨some 130, .bin .eql (.tmp 43) (.const (.int .i64 5)), none⟩,
          ⟨some 129, .mov (.tmp 130), none⟩] [1, 3, 43, 129])
        (.cond (.tmp 129)
          (.seq (.region [
            ⟨some 131, .mov (.tmp 3), none⟩,
            ⟨some 132, .mov (.tmp 131), none⟩,
            ⟨some 133, .faddr (.tmp 1) 5, some (132, true)⟩,
            ⟨some 134, .load (.tmp 133) 1 false .plain, some (132, true)⟩,
            ⟨some 135, .bin .eql (.tmp 134) (.const (.str ⟨#[]⟩)), some (132, true)⟩,
            ⟨some 136, .pick (.tmp 132) (.tmp 135) (.const (.bool false)), none⟩] [1, 136])
          (.cond (.tmp 136)
            (.seq (.quiet [
              ⟨some 137, .faddr (.tmp 1) 1, none⟩,
              ⟨some 138, .load (.tmp 137) 1 false .plain, none⟩,
              ⟨some 139, .bin .add (.const (.str ⟨#[103, 111, 116, 98, 97, 99, 107, 32]⟩)) (.tmp 138), none⟩,
              ⟨some 140, .bin .add (.tmp 139) (.const (.str ⟨#[32]⟩)), none⟩,
              ⟨some 141, .faddr (.tmp 1) 4, none⟩,
              ⟨some 142, .load (.tmp 141) 1 false .plain, none⟩,
              ⟨some 143, .bin .add (.tmp 140) (.tmp 142), none⟩,
              ⟨some 144, .bin .add (.tmp 143) (.const (.str ⟨#[32]⟩)), none⟩,
              ⟨some 145, .faddr (.tmp 1) 6, none⟩,
              ⟨some 146, .load (.tmp 145) 1 false .plain, none⟩,
              ⟨some 147, .call 140 [false] [.tmp 146], none⟩,
              ⟨some 148, .bin .add (.tmp 144) (.tmp 147), none⟩,
              ⟨some 149, .bin .add (.tmp 148) (.const (.str ⟨#[10]⟩)), none⟩,
              ⟨some 2, .mov (.tmp 149), none⟩] [2])
            .ret)
            .skip))
          (.seq (.region [
            ⟨some 151, .bin .eql (.tmp 43) (.const (.int .i64 6)), none⟩,
            ⟨some 150, .mov (.tmp 151), none⟩] [1, 150])
          (.cond (.tmp 150)
            (.seq (.region [
              ⟨some 152, .faddr (.tmp 1) 2, none⟩,
              ⟨some 153, .load (.tmp 152) 1 false .plain, none⟩,
              ⟨some 154, .call 102 [false, false, false] [.tmp 153, .const (.int .i64 0), .const (.int .i64 1000000)], none⟩,
              ⟨some 155, .mov (.tmp 154), none⟩,
              ⟨some 156, .faddr (.tmp 1) 4, some (155, true)⟩,
              ⟨some 157, .load (.tmp 156) 1 false .plain, some (155, true)⟩,
              ⟨some 158, .bin .eql (.tmp 157) (.const (.str ⟨#[]⟩)), some (155, true)⟩,
              ⟨some 159, .pick (.tmp 155) (.tmp 158) (.const (.bool false)), none⟩,
              ⟨some 160, .mov (.tmp 159), none⟩,
              ⟨some 161, .faddr (.tmp 1) 5, some (160, true)⟩,
              ⟨some 162, .load (.tmp 161) 1 false .plain, some (160, true)⟩,
              ⟨some 163, .bin .eql (.tmp 162) (.const (.str ⟨#[]⟩)), some (160, true)⟩,
              ⟨some 164, .pick (.tmp 160) (.tmp 163) (.const (.bool false)), none⟩,
              ⟨some 165, .mov (.tmp 164), none⟩,
              ⟨some 166, .faddr (.tmp 1) 6, some (165, true)⟩,
              ⟨some 167, .load (.tmp 166) 1 false .plain, some (165, true)⟩,
              ⟨some 168, .bin .eql (.tmp 167) (.const (.int .i64 0)), some (165, true)⟩,
              ⟨some 169, .pick (.tmp 165) (.tmp 168) (.const (.bool false)), none⟩] [1, 169])
            (.cond (.tmp 169)
              (.seq (.quiet [
                ⟨some 170, .faddr (.tmp 1) 1, none⟩,
                ⟨some 171, .load (.tmp 170) 1 false .plain, none⟩,
                ⟨some 172, .bin .add (.const (.str ⟨#[104, 101, 114, 101, 32]⟩)) (.tmp 171), none⟩,
                ⟨some 173, .bin .add (.tmp 172) (.const (.str ⟨#[32]⟩)), none⟩,
                ⟨some 174, .faddr (.tmp 1) 2, none⟩,
                ⟨some 175, .load (.tmp 174) 1 false .plain, none⟩,
                ⟨some 176, .call 140 [false] [.tmp 175], none⟩,
                ⟨some 177, .bin .add (.tmp 173) (.tmp 176), none⟩,
                ⟨some 178, .bin .add (.tmp 177) (.const (.str ⟨#[10]⟩)), none⟩,
                ⟨some 2, .mov (.tmp 178), none⟩] [2])
              .ret)
              .skip))
            .skip))))))))))
  (.seq (.region [
    ⟨some 2, .mov (.const (.str ⟨#[]⟩)), none⟩] [2])
  .ret))))))⟩
-- spec.l7At
def c239 : CFn := ⟨13, [.tmp 4],
  (.seq (.region [
    ⟨some 4, .mov (.const (.str ⟨#[]⟩)), none⟩] [0, 1])
  (.seq (.seq (.region [
    ⟨some 5, .mov (.tmp 1), none⟩,
    ⟨some 6, .mov (.tmp 0), none⟩,
    ⟨some 7, .len false (.tmp 6), none⟩,
    ⟨some 8, .bin .lss (.tmp 5) (.tmp 7), none⟩] [0, 1, 8])
  (.cond (.tmp 8)
    (.seq (.region [
      ⟨some 9, .mov (.tmp 0), none⟩,
      ⟨some 10, .mov (.tmp 1), none⟩,
      ⟨some 11, .iaddr 1 (.tmp 9) (.tmp 10), none⟩,
      ⟨some 12, .load (.tmp 11) 1 false .plain, none⟩,
      ⟨some 4, .mov (.tmp 12), none⟩] [4])
    .ret)
    .skip))
  (.seq (.region [
    ⟨some 4, .mov (.const (.str ⟨#[]⟩)), none⟩] [4])
  .ret)))⟩
-- spec.l7Want
def c240 : CFn := ⟨40, [.tmp 2],
  (.seq (.region [
    ⟨some 1, .box (.tmp 0), none⟩,
    ⟨some 2, .mov (.const (.str ⟨#[]⟩)), none⟩] [1])
  (.seq (.region [
    ⟨some 4, .faddr (.tmp 1) 2, none⟩,
    ⟨some 5, .load (.tmp 4) 1 false .plain, none⟩,
    ⟨some 3, .mov (.tmp 5), none⟩] [1, 3])
  (.seq (.seq (.region [
    ⟨some 6, .mov (.tmp 3), none⟩,
    ⟨some 7, .bin .eql (.tmp 6) (.const (.str ⟨#[]⟩)), none⟩] [1, 3, 7])
  (.cond (.tmp 7)
    (.region [
      ⟨some 3, .mov (.const (.str ⟨#[42]⟩)), none⟩] [1, 3])
    .skip))
  (.seq (.quiet [
    ⟨some 8, .faddr (.tmp 1) 0, none⟩,
    ⟨some 9, .load (.tmp 8) 1 false .plain, none⟩,
    ⟨some 10, .bin .add (.const (.str ⟨#[119, 97, 110, 116, 32]⟩)) (.tmp 9), none⟩,
    ⟨some 11, .bin .add (.tmp 10) (.const (.str ⟨#[32]⟩)), none⟩,
    ⟨some 12, .faddr (.tmp 1) 1, none⟩,
    ⟨some 13, .load (.tmp 12) 1 false .plain, none⟩,
    ⟨some 14, .call 140 [false] [.tmp 13], none⟩,
    ⟨some 15, .bin .add (.tmp 11) (.tmp 14), none⟩,
    ⟨some 16, .bin .add (.tmp 15) (.const (.str ⟨#[32]⟩)), none⟩,
    ⟨some 17, .mov (.tmp 3), none⟩,
    ⟨some 18, .bin .add (.tmp 16) (.tmp 17), none⟩,
    ⟨some 19, .bin .add (.tmp 18) (.const (.str ⟨#[32]⟩)), none⟩,
    ⟨some 20, .faddr (.tmp 1) 3, none⟩,
    ⟨some 21, .load (.tmp 20) 1 false .plain, none⟩,
    ⟨some 22, .call 140 [false] [.tmp 21], none⟩,
    ⟨some 23, .bin .add (.tmp 19) (.tmp 22), none⟩,
    ⟨some 24, .bin .add (.tmp 23) (.const (.str ⟨#[32]⟩)), none⟩,
    ⟨some 25, .faddr (.tmp 1) 4, none⟩,
    ⟨some 26, .load (.tmp 25) 1 false .plain, none⟩,
    ⟨some 27, .call 140 [false] [.tmp 26], none⟩,
    ⟨some 28, .bin .add (.tmp 24) (.tmp 27), none⟩,
    ⟨some 29, .bin .add (.tmp 28) (.const (.str ⟨#[32]⟩)), none⟩,
    ⟨some 30, .faddr (.tmp 1) 5, none⟩,
    ⟨some 31, .load (.tmp 30) 1 false .plain, none⟩,
    ⟨some 32, .call 140 [false] [.tmp 31], none⟩,
    ⟨some 33, .bin .add (.tmp 29) (.tmp 32), none⟩,
    ⟨some 34, .bin .add (.tmp 33) (.const (.str ⟨#[32]⟩)), none⟩,
    ⟨some 35, .faddr (.tmp 1) 6, none⟩,
    ⟨some 36, .load (.tmp 35) 1 false .plain, none⟩,
    ⟨some 37, .call 140 [false] [.tmp 36], none⟩,
    ⟨some 38, .bin .add (.tmp 34) (.tmp 37), none⟩,
    ⟨some 39, .bin .add (.tmp 38) (.const (.str ⟨#[10]⟩)), none⟩,
    ⟨some 2, .mov (.tmp 39), none⟩] [2])
  .ret))))⟩
-- laws.FnForms
def c262 : CFn := ⟨94, [.tmp 2],
  (.seq (.region [
    ⟨some 2, .mov (.const (.bool false)), none⟩] [0])
  (.seq (.seq (.region [
    ⟨some 15, .mov (.tmp 0), none⟩,
    ⟨some 16, .len false (.tmp 15), none⟩,
    ⟨some 17, .bin .gtr (.tmp 16) (.const (.int .i64 1048576)), none⟩] [0, 17])
  (.cond (.tmp 17)
    (.seq (.region [
      ⟨some 2, .mov (.const (.bool true)), none⟩] [2])
    .ret)
    .skip))
  (.seq (.region [
    ⟨some 18, .mov (.tmp 0), none⟩,
    ⟨some 19, .call 266 [false] [.tmp 18], none⟩,
    ⟨some 3, .alloc [.int .i64 0, .str ⟨#[]⟩, .int .i64 0, .sl .own 7 [], .str ⟨#[]⟩, .str ⟨#[]⟩, .int .i64 0], none⟩,
    ⟨none, .store (.tmp 3) (.tmp 19) 7, none⟩] [0, 3])
  (.seq (.region [
    ⟨some 20, .load (.tmp 3) 7 true .plain, none⟩,
    ⟨some 21, .call 218 [false] [.tmp 20], none⟩,
    ⟨some 4, .mov (.tmp 21), none⟩] [0, 3, 4])
  (.seq (.region [
    ⟨some 23, .mov (.tmp 4), none⟩,
    ⟨some 24, .call 207 [false] [.tmp 23], none⟩,
    ⟨some 22, .mov (.tmp 24), none⟩,
    ⟨some 25, .ext (.tmp 22) 0, none⟩,
    ⟨some 26, .ext (.tmp 22) 1, none⟩,
    ⟨some 5, .alloc [.int .i64 0, .str ⟨#[]⟩, .int .i64 0, .sl .own 7 [], .str ⟨#[]⟩, .str ⟨#[]⟩, .int .i64 0], none⟩,
    ⟨none, .store (.tmp 5) (.tmp 25) 7, none⟩,
    ⟨some 6, .mov (.tmp 26), none⟩] [0, 3, 4, 5, 6])
  (.seq (.seq (.region [
    ⟨some 27, .mov (.tmp 4), none⟩,
    ⟨some 28, .load (.tmp 3) 7 true .plain, none⟩,
    ⟨some 29, .call 236 [false] [.tmp 28], none⟩,
    ⟨some 30, .bin .neq (.tmp 27) (.tmp 29), none⟩,
    ⟨some 31, .mov (.tmp 30), none⟩,
    ⟨some 32, .mov (.tmp 6), some (31, false)⟩,
    ⟨some 33, .mov (.tmp 4), some (31, false)⟩,
    ⟨some 34, .bin .neq (.tmp 33) (.const (.str ⟨#[]⟩)), some (31, false)⟩,
    ⟨some 35, .beq true (.tmp 32) (.tmp 34), some (31, false)⟩,
    ⟨some 36, .pick (.tmp 31) (.const (.bool true)) (.tmp 35), none⟩,
    ⟨some 37, .mov (.tmp 36), none⟩,
    ⟨some 38, .mov (.tmp 6), some (37, false)⟩,
    ⟨some 39, .mov (.tmp 38), some (37, false)⟩,
    ⟨some 40, .load (.tmp 3) 7 true .plain, some (39, true)⟩,
    ⟨some 41, .load (.tmp 5) 7 true .plain, some (39, true)⟩,
    ⟨some 42, .call 143 [false, false] [.tmp 40, .tmp 41], some (39, true)⟩,
    ⟨some 43, .un .not (.tmp 42), some (39, true)⟩,
    ⟨some 44, .pick (.tmp 39) (.tmp 43) (.const (.bool false)), some (37, false)⟩,
    ⟨some 45, .pick (.tmp 37) (.const (.bool true)) (.tmp 44), none⟩] [0, 45])
  (.cond (.tmp 45)
    (.seq (.region [
      ⟨some 2, .mov (.const (.bool false)), none⟩] [2])
    .ret)
    .skip))
  (.seq (.region [
    ⟨some 46, .mov (.tmp 0), none⟩,
    ⟨some 47, .call 265 [false] [.tmp 46], none⟩,
    ⟨some 7, .mov (.tmp 47), none⟩] [0, 7])
  (.seq (.region [
    ⟨some 49, .mov (.tmp 7), none⟩,
    ⟨some 50, .call 207 [false] [.tmp 49], none⟩,
    ⟨some 48, .mov (.tmp 50), none⟩,
    ⟨some 51, .ext (.tmp 48) 0, none⟩,
    ⟨some 52, .ext (.tmp 48) 1, none⟩,
    ⟨some 8, .alloc [.int .i64 0, .str ⟨#[]⟩, .int .i64 0, .sl .own 7 [], .str ⟨#[]⟩, .str ⟨#[]⟩, .int .i64 0], none⟩,
    ⟨none, .store (.tmp 8) (.tmp 51) 7, none⟩,
    ⟨some 9, .mov (.tmp 52), none⟩] [0, 7, 8, 9])
  (.seq (.region [
    ⟨some 54, .mov (.tmp 7), none⟩,
    ⟨some 55, .call 235 [false] [.tmp 54], none⟩,
    ⟨some 53, .mov (.tmp 55), none⟩,
    ⟨some 56, .ext (.tmp 53) 0, none⟩,
    ⟨some 57, .ext (.tmp 53) 1, none⟩,
    ⟨some 10, .alloc [.int .i64 0, .str ⟨#[]⟩, .int .i64 0, .sl .own 7 [], .str ⟨#[]⟩, .str ⟨#[]⟩, .int .i64 0], none⟩,
    ⟨none, .store (.tmp 10) (.tmp 56) 7, none⟩,
    ⟨some 11, .mov (.tmp 57), none⟩] [0, 7, 8, 9, 11])
  (.seq (.region [
    ⟨some 58, .mov (.tmp 0), none⟩,
    ⟨some 59, .call 264 [false] [.tmp 58], none⟩,
    ⟨some 12, .mov (.tmp 59), none⟩] [0, 7, 8, 9, 11, 12])
  (.seq (.region [
    ⟨some 61, .mov (.tmp 0), none⟩,
    ⟨some 62, .call 263 [false] [.tmp 61], none⟩,
    ⟨some 60, .mov (.tmp 62), none⟩,
    ⟨some 63, .ext (.tmp 60) 0, none⟩,
    ⟨some 64, .ext (.tmp 60) 1, none⟩,
    ⟨some 13, .mov (.tmp 63), none⟩,
    ⟨some 14, .mov (.tmp 64), none⟩] [7, 8, 9, 11, 12, 13, 14])
  (.seq (.region [
    ⟨some 65, .mov (.tmp 9), none⟩,
    ⟨some 66, .mov (.tmp 11), none⟩,
    ⟨some 67, .beq false (.tmp 65) (.tmp 66), none⟩,
    ⟨some 68, .mov (.tmp 67), none⟩,
    ⟨some 69, .mov (.tmp 9), some (68, true)⟩,
    ⟨some 70, .un .not (.tmp 69), some (68, true)⟩,
    ⟨some 71, .mov (.tmp 70), some (68, true)⟩,
    ⟨some 72, .load (.tmp 8) 7 true .plain, some (71, false)⟩,
    ⟨some 73, .call 218 [false] [.tmp 72], some (71, false)⟩,
    ⟨some 74, .mov (.tmp 7), some (71, false)⟩,
    ⟨some 75, .bin .eql (.tmp 73) (.tmp 74), some (71, false)⟩,
    ⟨some 76, .pick (.tmp 71) (.const (.bool true)) (.tmp 75), some (68, true)⟩,
    ⟨some 77, .pick (.tmp 68) (.tmp 76) (.const (.bool false)), none⟩,
    ⟨some 78, .mov (.tmp 77), none⟩,
    ⟨some 79, .mov (.tmp 12), some (78, true)⟩,
    ⟨some 80, .call 6 [false] [.tmp 79], some (78, true)⟩,
    ⟨some 81, .mov (.tmp 12), some (78, true)⟩,
    ⟨some 82, .call 7 [false] [.tmp 81], some (78, true)⟩,
    ⟨some 83, .beq false (.tmp 80) (.tmp 82), some (78, true)⟩,
    ⟨some 84, .pick (.tmp 78) (.tmp 83) (.const (.bool false)), none⟩,
    ⟨some 85, .mov (.tmp 84), none⟩,
    ⟨some 86, .mov (.tmp 13), some (85, true)⟩,
    ⟨some 87, .mov (.tmp 14), some (85, true)⟩,
    ⟨some 88, .call 11 [false, false] [.tmp 86, .tmp 87], some (85, true)⟩,
    ⟨some 89, .mov (.tmp 13), some (85, true)⟩,
    ⟨some 90, .mov (.tmp 14), some (85, true)⟩,
    ⟨some 91, .call 12 [false, false] [.tmp 89, .tmp 90], some (85, true)⟩,
    ⟨some 92, .beq false (.tmp 88) (.tmp 91), some (85, true)⟩,
    ⟨some 93, .pick (.tmp 85) (.tmp 92) (.const (.bool false)), none⟩,
    ⟨some 2, .mov (.tmp 93), none⟩] [2])
  .ret))))))))))))⟩
-- spec.DrawMateRunsOk
def c263b0 : CCode := (.seq (.seq (.region [
    ⟨some 47, .mov (.tmp 6), none⟩,
    ⟨some 48, .len false (.tmp 47), none⟩,
    ⟨some 49, .mov (.tmp 4), none⟩,
    ⟨some 50, .call 89 [true, false] [.tmp 49, .const (.int .i64 2)], none⟩,
    ⟨some 51, .bin .add (.const (.int .i64 20)) (.tmp 50), none⟩,
    ⟨some 52, .bin .lss (.tmp 48) (.tmp 51), none⟩] [4, 5, 6, 8, 52])
  (.cond (.tmp 52)
    .skip
    (.exit 1)))
  (.seq (.block 2
    (.region [
      ⟨some 55, .mov (.tmp 6), none⟩,
      ⟨some 56, .mov (.tmp 8), none⟩,
      ⟨some 57, .bin .add (.const (.int .i64 97)) (.tmp 56), none⟩,
      ⟨some 58, .conv .u8 (.tmp 57), none⟩,
      ⟨some 59, .bslice 1 [.int .u8 0] 1 [(0, .tmp 58)], none⟩,
      ⟨some 60, .toStr (.tmp 59), none⟩,
      ⟨some 61, .bin .add (.const (.str ⟨#[100]⟩)) (.tmp 60), none⟩,
      ⟨some 62, .build [.str ⟨#[]⟩, .int .i64 0, .str ⟨#[]⟩, .int .i64 0, .int .i64 0, .int .i64 0, .int .i64 0] [(0, 1, .tmp 61), (1, 1, .const (.int .i64 1))], none⟩,
      ⟨some 63, .build [.str ⟨#[]⟩, .int .i64 0, .str ⟨#[]⟩, .int .i64 0, .int .i64 0, .int .i64 0, .int .i64 0, .int .i64 0, .int .i64 0, .int .i64 0, .int .i64 0] [(0, 7, .tmp 62), (7, 1, .const (.int .i64 1))], none⟩,
      ⟨some 64, .bslice 11 [.str ⟨#[]⟩, .int .i64 0, .str ⟨#[]⟩, .int .i64 0, .int .i64 0, .int .i64 0, .int .i64 0, .int .i64 0, .int .i64 0, .int .i64 0, .int .i64 0] 1 [(0, .tmp 63)], none⟩,
      ⟨some 65, .append 11 104 true (.tmp 55) (.tmp 64), none⟩,
      ⟨some 6, .mov (.tmp 65), none⟩] [4, 5, 6, 8]))
  (.region [
    ⟨some 53, .mov (.tmp 8), none⟩,
    ⟨some 54, .bin .add (.tmp 53) (.const (.int .i64 1)), none⟩,
    ⟨some 8, .mov (.tmp 54), none⟩] [4, 5, 6, 8])))
def c263 : CFn := ⟨79, [.tmp 2, .tmp 3],
  (.seq (.region [
    ⟨some 2, .mov (.const (.sl .own 11 [])), none⟩,
    ⟨some 3, .mov (.const (.int .i64 0)), none⟩] [0])
  (.seq (.region [
    ⟨some 9, .mov (.tmp 0), none⟩,
    ⟨some 10, .call 91 [false] [.tmp 9], none⟩,
    ⟨some 4, .mov (.tmp 10), none⟩] [4])
  (.seq (.region [
    ⟨some 11, .mov (.tmp 4), none⟩,
    ⟨some 12, .call 89 [true, false] [.tmp 11, .const (.int .i64 40)], none⟩,
    ⟨some 5, .mov (.tmp 12), none⟩] [4, 5])
  (.seq (.region [
    ⟨some 13, .mov (.tmp 4), none⟩,
    ⟨some 14, .mov (.tmp 5), none⟩,
    ⟨some 15, .mov (.tmp 4), none⟩,
    ⟨some 16, .call 89 [true, false] [.tmp 15, .const (.int .i64 2)], none⟩,
    ⟨some 17, .bin .eql (.tmp 16) (.const (.int .i64 0)), none⟩,
    ⟨some 18, .call 162 [true, false, false] [.tmp 13, .tmp 14, .tmp 17], none⟩,
    ⟨some 6, .mov (.tmp 18), none⟩] [4, 5, 6])
  (.seq (.seq (.region [
    ⟨some 19, .mov (.tmp 6), none⟩,
    ⟨some 20, .len false (.tmp 19), none⟩,
    ⟨some 21, .bin .eql (.tmp 20) (.const (.int .i64 0)), none⟩,
    ⟨some 22, .mov (.tmp 21), none⟩,
    ⟨some 23, .mov (.tmp 4), some (22, false)⟩,
    ⟨some 24, .call 89 [true, false] [.tmp 23, .const (.int .i64 2)], some (22, false)⟩,
    ⟨some 25, .bin .eql (.tmp 24) (.const (.int .i64 0)), some (22, false)⟩,
    ⟨some 26, .pick (.tmp 22) (.const (.bool true)) (.tmp 25), none⟩] [4, 5, 6, 26])
  (.cond (.tmp 26)
    (.seq (.region [
      ⟨some 27, .mov (.tmp 6), none⟩,
      ⟨some 28, .mov (.tmp 5), none⟩,
      ⟨some 2, .mov (.tmp 27), none⟩,
      ⟨some 3, .mov (.tmp 28), none⟩] [2, 3])
    .ret)
    .skip))
  (.seq (.region [
    ⟨some 29, .mov (.tmp 4), none⟩,
    ⟨some 30, .mov (.tmp 6), none⟩,
    ⟨some 31, .len false (.tmp 30), none⟩,
    ⟨some 32, .call 89 [true, false] [.tmp 29, .tmp 31], none⟩,
    ⟨some 7, .mov (.tmp 32), none⟩] [4, 5, 6, 7])
  (.seq (.seq (.region [
    ⟨some 33, .mov (.tmp 4), none⟩,
    ⟨some 34, .call 89 [true, false] [.tmp 33, .const (.int .i64 5)], none⟩] [4, 5, 6, 7, 34])
  (.block 0
    (.seq (.region [
      ⟨some 36, .bin .eql (.tmp 34) (.const (.int .i64 0)), none⟩,
      ⟨some 35, .mov (.tmp 36), none⟩] [4, 5, 6, 7, 34, 35])
    (.cond (.tmp 35)
      (.seq (.region [
        ⟨some 37, .mov (.tmp 6), none⟩,
        ⟨some 38, .mov (.tmp 6), none⟩,
        ⟨some 39, .mov (.tmp 7), none⟩,
        ⟨some 40, .iaddr 11 (.tmp 38) (.tmp 39), none⟩,
        ⟨some 41, .load (.tmp 40) 11 true .plain, none⟩,
        ⟨some 42, .bslice 11 [.str ⟨#[]⟩, .int .i64 0, .str ⟨#[]⟩, .int .i64 0, .int .i64 0, .int .i64 0, .int .i64 0, .int .i64 0, .int .i64 0, .int .i64 0, .int .i64 0] 1 [(0, .tmp 41)], none⟩,
        ⟨some 43, .append 11 104 true (.tmp 37) (.tmp 42), none⟩,
        ⟨some 44, .mov (.tmp 5), none⟩,
        ⟨some 2, .mov (.tmp 43), none⟩,
        ⟨some 3, .mov (.tmp 44), none⟩] [2, 3])
      .ret)
      (.seq (.region [
        ⟨some 46, .bin .eql (.tmp 34) (.const (.int .i64 1)), none⟩,
        ⟨some 45, .mov (.tmp 46), none⟩] [4, 5, 6, 7, 45])
      (.cond (.tmp 45)
        (.seq (.seq (.region [
          ⟨some 8, .mov (.const (.int .i64 0)), none⟩] [4, 5, 6, 8])
        (.block 1
          (.loop [4, 5, 6, 8] c263b0)))
        (.seq (.region [
          ⟨some 66, .mov (.tmp 6), none⟩,
          ⟨some 67, .mov (.tmp 5), none⟩,
          ⟨some 2, .mov (.tmp 66), none⟩,
          ⟨some 3, .mov (.tmp 67), none⟩] [2, 3])
        .ret))
        .skip))))))
  (.seq (.region [
    ⟨some 68, .mov (.tmp 6), none⟩,
    ⟨some 69, .mov (.tmp 7), none⟩,
    ⟨some 70, .mov (.tmp 4), none⟩,
    ⟨some 71, .mov (.tmp 6), none⟩,
    ⟨some 72, .mov (.tmp 7), none⟩,
    ⟨some 73, .iaddr 11 (.tmp 71) (.tmp 72), none⟩,
    ⟨some 74, .load (.tmp 73) 11 true .plain, none⟩,
    ⟨some 75, .call 88 [true, false] [.tmp 70, .tmp 74], none⟩,
    ⟨some 76, .iaddr 11 (.tmp 68) (.tmp 69), none⟩,
    ⟨none, .store (.tmp 76) (.tmp 75) 11, none⟩] [5, 6])
  (.seq (.region [
    ⟨some 77, .mov (.tmp 6), none⟩,
    ⟨some 78, .mov (.tmp 5), none⟩,
    ⟨some 2, .mov (.tmp 77), none⟩,
    ⟨some 3, .mov (.tmp 78), none⟩] [2, 3])
  .ret)))))))))⟩
-- spec.DrawMateWantsOk
def c264b0 : CCode := (.seq (.seq (.region [
    ⟨some 37, .mov (.tmp 4), none⟩,
    ⟨some 38, .len false (.tmp 37), none⟩,
    ⟨some 39, .mov (.tmp 3), none⟩,
    ⟨some 40, .call 89 [true, false] [.tmp 39, .const (.int .i64 2)], none⟩,
    ⟨some 41, .bin .add (.const (.int .i64 10)) (.tmp 40), none⟩,
    ⟨some 42, .bin .lss (.tmp 38) (.tmp 41), none⟩] [3, 4, 6, 42])
  (.cond (.tmp 42)
    .skip
    (.exit 1)))
  (.seq (.block 2
    (.region [
      ⟨some 45, .mov (.tmp 4), none⟩,
      ⟨some 46, .mov (.tmp 6), none⟩,
      ⟨some 47, .bin .add (.const (.int .i64 97)) (.tmp 46), none⟩,
      ⟨some 48, .conv .u8 (.tmp 47), none⟩,
      ⟨some 49, .bslice 1 [.int .u8 0] 1 [(0, .tmp 48)], none⟩,
      ⟨some 50, .toStr (.tmp 49), none⟩,
      ⟨some 51, .bin .add (.const (.str ⟨#[100]⟩)) (.tmp 50), none⟩,
      ⟨some 52, .build [.str ⟨#[]⟩, .int .i64 0, .str ⟨#[]⟩, .int .i64 0, .int .i64 0, .int .i64 0, .int .i64 0] [(0, 1, .tmp 51), (1, 1, .const (.int .i64 1))], none⟩,
      ⟨some 53, .bslice 7 [.str ⟨#[]⟩, .int .i64 0, .str ⟨#[]⟩, .int .i64 0, .int .i64 0, .int .i64 0, .int .i64 0] 1 [(0, .tmp 52)], none⟩,
      ⟨some 54, .append 7 72 true (.tmp 45) (.tmp 53), none⟩,
      ⟨some 4, .mov (.tmp 54), none⟩] [3, 4, 6]))
  (.region [
    ⟨some 43, .mov (.tmp 6), none⟩,
    ⟨some 44, .bin .add (.tmp 43) (.const (.int .i64 1)), none⟩,
    ⟨some 6, .mov (.tmp 44), none⟩] [3, 4, 6])))
def c264 : CFn := ⟨66, [.tmp 2],
  (.seq (.region [
    ⟨some 2, .mov (.const (.sl .own 7 [])), none⟩] [0])
  (.seq (.region [
    ⟨some 7, .mov (.tmp 0), none⟩,
    ⟨some 8, .call 91 [false] [.tmp 7], none⟩,
    ⟨some 3, .mov (.tmp 8), none⟩] [3])
  (.seq (.region [
    ⟨some 9, .mov (.tmp 3), none⟩,
    ⟨some 10, .call 145 [true] [.tmp 9], none⟩,
    ⟨some 4, .mov (.tmp 10), none⟩] [3, 4])
  (.seq (.seq (.region [
    ⟨some 11, .mov (.tmp 4), none⟩,
    ⟨some 12, .len false (.tmp 11), none⟩,
    ⟨some 13, .bin .eql (.tmp 12) (.const (.int .i64 0)), none⟩,
    ⟨some 14, .mov (.tmp 13), none⟩,
    ⟨some 15, .mov (.tmp 3), some (14, false)⟩,
    ⟨some 16, .call 89 [true, false] [.tmp 15, .const (.int .i64 2)], some (14, false)⟩,
    ⟨some 17, .bin .eql (.tmp 16) (.const (.int .i64 0)), some (14, false)⟩,
    ⟨some 18, .pick (.tmp 14) (.const (.bool true)) (.tmp 17), none⟩] [3, 4, 18])
  (.cond (.tmp 18)
    (.seq (.region [
      ⟨some 19, .mov (.tmp 4), none⟩,
      ⟨some 2, .mov (.tmp 19), none⟩] [2])
    .ret)
    .skip))
  (.seq (.region [
    ⟨some 20, .mov (.tmp 3), none⟩,
    ⟨some 21, .mov (.tmp 4), none⟩,
    ⟨some 22, .len false (.tmp 21), none⟩,
    ⟨some 23, .call 89 [true, false] [.tmp 20, .tmp 22], none⟩,
    ⟨some 5, .mov (.tmp 23), none⟩] [3, 4, 5])
  (.seq (.seq (.region [
    ⟨some 24, .mov (.tmp 3), none⟩,
    ⟨some 25, .call 89 [true, false] [.tmp 24, .const (.int .i64 4)], none⟩] [3, 4, 5, 25])
  (.block 0
    (.seq (.region [
      ⟨some 27, .bin .eql (.tmp 25) (.const (.int .i64 0)), none⟩,
      ⟨some 26, .mov (.tmp 27), none⟩] [3, 4, 5, 25, 26])
    (.cond (.tmp 26)
      (.seq (.region [
        ⟨some 28, .mov (.tmp 4), none⟩,
        ⟨some 29, .mov (.tmp 4), none⟩,
        ⟨some 30, .mov (.tmp 5), none⟩,
        ⟨some 31, .iaddr 7 (.tmp 29) (.tmp 30), none⟩,
        ⟨some 32, .load (.tmp 31) 7 true .plain, none⟩,
        ⟨some 33, .bslice 7 [.str ⟨#[]⟩, .int .i64 0, .str ⟨#[]⟩, .int .i64 0, .int .i64 0, .int .i64 0, .int .i64 0] 1 [(0, .tmp 32)], none⟩,
        ⟨some 34, .append 7 72 true (.tmp 28) (.tmp 33), none⟩,
        ⟨some 2, .mov (.tmp 34), none⟩] [2])
      .ret)
      (.seq (.region [
        ⟨some 36, .bin .eql (.tmp 25) (.const (.int .i64 1)), none⟩,
        ⟨some 35, .mov (.tmp 36), none⟩] [3, 4, 5, 35])
      (.cond (.tmp 35)
        (.seq (.seq (.region [
          ⟨some 6, .mov (.const (.int .i64 0)), none⟩] [3, 4, 6])
        (.block 1
          (.loop [3, 4, 6] c264b0)))
        (.seq (.region [
          ⟨some 55, .mov (.tmp 4), none⟩,
          ⟨some 2, .mov (.tmp 55), none⟩] [2])
        .ret))
        .skip))))))
  (.seq (.region [
    ⟨some 56, .mov (.tmp 4), none⟩,
    ⟨some 57, .mov (.tmp 5), none⟩,
    ⟨some 58, .mov (.tmp 3), none⟩,
    ⟨some 59, .mov (.tmp 4), none⟩,
    ⟨some 60, .mov (.tmp 5), none⟩,
    ⟨some 61, .iaddr 7 (.tmp 59) (.tmp 60), none⟩,
    ⟨some 62, .load (.tmp 61) 7 true .plain, none⟩,
    ⟨some 63, .call 144 [true, false] [.tmp 58, .tmp 62], none⟩,
    ⟨some 64, .iaddr 7 (.tmp 56) (.tmp 57), none⟩,
    ⟨none, .store (.tmp 64) (.tmp 63) 7, none⟩] [4])
  (.seq (.region [
    ⟨some 65, .mov (.tmp 4), none⟩,
    ⟨some 2, .mov (.tmp 65), none⟩] [2])
  .ret))))))))⟩
-- spec.DrawMateRead
def c265 : CFn := ⟨17, [.tmp 2],
  (.seq (.region [
    ⟨some 2, .mov (.const (.str ⟨#[]⟩)), none⟩] [0])
  (.seq (.region [
    ⟨some 5, .mov (.tmp 0), none⟩,
    ⟨some 6, .call 91 [false] [.tmp 5], none⟩,
    ⟨some 3, .mov (.tmp 6), none⟩] [3])
  (.seq (.region [
    ⟨some 7, .mov (.tmp 3), none⟩,
    ⟨some 8, .call 267 [true] [.tmp 7], none⟩,
    ⟨some 9, .call 236 [false] [.tmp 8], none⟩,
    ⟨some 4, .mov (.tmp 9), none⟩] [3, 4])
  (.seq (.seq (.region [
    ⟨some 10, .mov (.tmp 3), none⟩,
    ⟨some 11, .call 89 [true, false] [.tmp 10, .const (.int .i64 2)], none⟩,
    ⟨some 12, .bin .eql (.tmp 11) (.const (.int .i64 0)), none⟩] [3, 4, 12])
  (.cond (.tmp 12)
    (.seq (.region [
      ⟨some 13, .mov (.tmp 3), none⟩,
      ⟨some 14, .mov (.tmp 4), none⟩,
      ⟨some 15, .call 189 [true, false] [.tmp 13, .tmp 14], none⟩,
      ⟨some 2, .mov (.tmp 15), none⟩] [2])
    .ret)
    .skip))
  (.seq (.region [
    ⟨some 16, .mov (.tmp 4), none⟩,
    ⟨some 2, .mov (.tmp 16), none⟩] [2])
  .ret)))))⟩
-- spec.DrawMateForm
def c266 : CFn := ⟨78, [.cell 2 7 true],
  (.seq (.region [
    ⟨some 2, .alloc [.int .i64 0, .str ⟨#[]⟩, .int .i64 0, .sl .own 7 [], .str ⟨#[]⟩, .str ⟨#[]⟩, .int .i64 0], none⟩] [0, 2])
  (.seq (.region [
    ⟨some 5, .mov (.tmp 0), none⟩,
    ⟨some 6, .call 91 [false] [.tmp 5], none⟩,
    ⟨some 3, .mov (.tmp 6), none⟩] [2, 3])
  (.seq (.region [
    ⟨some 7, .mov (.tmp 3), none⟩,
    ⟨some 8, .call 267 [true] [.tmp 7], none⟩,
    ⟨some 4, .alloc [.int .i64 0, .str ⟨#[]⟩, .int .i64 0, .sl .own 7 [], .str ⟨#[]⟩, .str ⟨#[]⟩, .int .i64 0], none⟩,
    ⟨none, .store (.tmp 4) (.tmp 8) 7, none⟩] [2, 3, 4])
  (.seq (.seq (.region [
    ⟨some 9, .mov (.tmp 3), none⟩,
    ⟨some 10, .call 89 [true, false] [.tmp 9, .const (.int .i64 3)], none⟩,
    ⟨some 11, .bin .gtr (.tmp 10) (.const (.int .i64 0)), none⟩] [2, 3, 4, 11])
  (.cond (.tmp 11)
    (.seq (.region [
      ⟨some 12, .load (.tmp 4) 7 true .plain, none⟩,
      ⟨none, .store (.tmp 2) (.tmp 12) 7, none⟩] [2])
    .ret)
    .skip))
  (.seq (.seq (.region [
    ⟨some 13, .mov (.tmp 3), none⟩,
    ⟨some 14, .call 89 [true, false] [.tmp 13, .const (.int .i64 7)], none⟩] [2, 3, 4, 14])
  (.block 0
    (.seq (.region [
      ⟨some 32, .bin .eql (.tmp 14) (.const (.int .i64 0)), none⟩,
      ⟨some 31, .mov (.tmp 32), none⟩] [2, 3, 4, 14, 31])
    (.cond (.tmp 31)
      (.region [
        ⟨some 33, .mov (.tmp 3), none⟩,
        ⟨some 34, .call 89 [true, false] [.tmp 33, .const (.int .i64 9)], none⟩,
        ⟨some 35, .bin .sub (.tmp 34) (.const (.int .i64 1)), none⟩,
        ⟨some 36, .faddr (.tmp 4) 0, none⟩,
        ⟨none, .store (.tmp 36) (.tmp 35) 1, none⟩] [2, 4])
      (.seq (.region [
        ⟨some 38, .bin .eql (.tmp 14) (.const (.int .i64 1)), none⟩,
        ⟨some 37, .mov (.tmp 38), none⟩] [2, 3, 4, 14, 37])
      (.cond (.tmp 37)
        (.region [
          ⟨some 39, .bslice 1 [.str ⟨#[]⟩] 2 [(0, .const (.str ⟨#[]⟩)), (1, .const (.str ⟨#[120, 32, 121]⟩))], none⟩,
          ⟨some 40, .mov (.tmp 3), none⟩,
          ⟨some 41, .call 89 [true, false] [.tmp 40, .const (.int .i64 2)], none⟩,
          ⟨some 42, .iaddr 1 (.tmp 39) (.tmp 41), none⟩,
          ⟨some 43, .load (.tmp 42) 1 false .plain, none⟩,
          ⟨some 44, .faddr (.tmp 4) 1, none⟩,
          ⟨none, .store (.tmp 44) (.tmp 43) 1, none⟩] [2, 4])
        (.seq (.region [
          ⟨some 46, .bin .eql (.tmp 14) (.const (.int .i64 2)), none⟩,
          ⟨some 45, .mov (.tmp 46), none⟩] [2, 3, 4, 14, 45])
        (.cond (.tmp 45)
          (.region [
            ⟨some 47, .bslice 1 [.int .i64 0] 4 [(0, .const (.int .i64 (-1))), (1, .const (.int .i64 0)), (2, .const (.int .i64 1)), (3, .const (.int .i64 1000001))], none⟩,
            ⟨some 48, .mov (.tmp 3), none⟩,
            ⟨some 49, .call 89 [true, false] [.tmp 48, .const (.int .i64 4)], none⟩,
            ⟨some 50, .iaddr 1 (.tmp 47) (.tmp 49), none⟩,
            ⟨some 51, .load (.tmp 50) 1 false .plain, none⟩,
            ⟨some 52, .faddr (.tmp 4) 2, none⟩,
            ⟨none, .store (.tmp 52) (.tmp 51) 1, none⟩] [2, 4])
          (.seq (.region [
            ⟨some 54, .bin .eql (.tmp 14) (.const (.int .i64 3)), none⟩,
            ⟨some 53, .mov (.tmp 54), none⟩] [2, 3, 4, 14, 53])
          (.cond (.tmp 53)
            (.region [
              ⟨some 55, .bslice 1 [.str ⟨#[]⟩] 3 [(0, .const (.str ⟨#[]⟩)), (1, .const (.str ⟨#[42]⟩)), (2, .const (.str ⟨#[120, 32, 121]⟩))], none⟩,
              ⟨some 56, .mov (.tmp 3), none⟩,
              ⟨some 57, .call 89 [true, false] [.tmp 56, .const (.int .i64 3)], none⟩,
              ⟨some 58, .iaddr 1 (.tmp 55) (.tmp 57), none⟩,
              ⟨some 59, .load (.tmp 58) 1 false .plain, none⟩,
              ⟨some 60, .faddr (.tmp 4) 4, none⟩,
              ⟨none, .store (.tmp 60) (.tmp 59) 1, none⟩] [2, 4])
            (.seq (.region [
              ⟨some 62, .bin .eql (.tmp 14) (.const (.int .i64 4)), none⟩,
              ⟨some 61, .mov (.tmp 62), none⟩] [2, 3, 4, 14, 61])
            (.cond (.tmp 61)
              (.region [
                ⟨some 63, .bslice 1 [.str ⟨#[]⟩] 3 [(0, .const (.str ⟨#[]⟩)), (1, .const (.str ⟨#[99]⟩)), (2, .const (.str ⟨#[120, 32, 121]⟩))], none⟩,
                ⟨some 64, .mov (.tmp 3), none⟩,
                ⟨some 65, .call 89 [true, false] [.tmp 64, .const (.int .i64 3)], none⟩,
                ⟨some 66, .iaddr 1 (.tmp 63) (.tmp 65), none⟩,
                ⟨some 67, .load (.tmp 66) 1 false .plain, none⟩,
                ⟨some 68, .faddr (.tmp 4) 5, none⟩,
                ⟨none, .store (.tmp 68) (.tmp 67) 1, none⟩] [2, 4])
              (.seq (.region [
                ⟨some 70, .bin .eql (.tmp 14) (.const (.int .i64 5)), none⟩,
                ⟨some 69, .mov (.tmp 70), none⟩] [2, 3, 4, 69])
              (.cond (.tmp 69)
                (.region [
                  ⟨some 71, .bslice 1 [.int .i64 0] 3 [(0, .const (.int .i64 (-1))), (1, .const (.int .i64 1)), (2, .const (.int .i64 1000001))], none⟩,
                  ⟨some 72, .mov (.tmp 3), none⟩,
                  ⟨some 73, .call 89 [true, false] [.tmp 72, .const (.int .i64 3)], none⟩,
                  ⟨some 74, .iaddr 1 (.tmp 71) (.tmp 73), none⟩,
                  ⟨some 75, .load (.tmp 74) 1 false .plain, none⟩,
                  ⟨some 76, .faddr (.tmp 4) 6, none⟩,
                  ⟨none, .store (.tmp 76) (.tmp 75) 1, none⟩] [2, 4])
                (.loud [
                  ⟨some 15, .faddr (.tmp 4) 3, none⟩,
                  ⟨some 16, .load (.tmp 15) 1 false .plain, none⟩,
                  ⟨some 17, .bslice 1 [.str ⟨#[]⟩] 2 [(0, .const (.str ⟨#[122, 122]⟩)), (1, .const (.str ⟨#[]⟩))], none⟩,
                  ⟨some 18, .mov (.tmp 3), none⟩,
                  ⟨some 19, .call 89 [true, false] [.tmp 18, .const (.int .i64 2)], none⟩,
                  ⟨some 20, .iaddr 1 (.tmp 17) (.tmp 19), none⟩,
                  ⟨some 21, .load (.tmp 20) 1 false .plain, none⟩,
                  ⟨some 22, .bslice 1 [.str ⟨#[]⟩] 2 [(0, .const (.str ⟨#[42]⟩)), (1, .const (.str ⟨#[104]⟩))], none⟩,
                  ⟨some 23, .mov (.tmp 3), none⟩,
                  ⟨some 24, .call 89 [true, false] [.tmp 23, .const (.int .i64 2)], none⟩,
                  ⟨some 25, .iaddr 1 (.tmp 22) (.tmp 24), none⟩,
                  ⟨some 26, .load (.tmp 25) 1 false .plain, none⟩,
                  ⟨some 27, .build [.str ⟨#[]⟩, .int .i64 0, .str ⟨#[]⟩, .int .i64 0, .int .i64 0, .int .i64 0, .int .i64 0] [(0, 1, .tmp 21), (1, 1, .const (.int .i64 1)), (2, 1, .tmp 26)], none⟩,
                  ⟨some 28, .bslice 7 [.str ⟨#[]⟩, .int .i64 0, .str ⟨#[]⟩, .int .i64 0, .int .i64 0, .int .i64 0, .int .i64 0] 1 [(0, .tmp 27)], none⟩,
                  ⟨some 29, .append 7 72 true (.tmp 16) (.tmp 28), none⟩,
                  ⟨some 30, .faddr (.tmp 4) 3, none⟩,
                  ⟨none, .store (.tmp 30) (.tmp 29) 1, none⟩] [0, 1, 0, 0, 8, 28, 60, 0, 0, 280, 920, 1944, 4092, 8188, 16383, 32767, 65535] [2, 4])))))))))))))))
  (.seq (.region [
    ⟨some 77, .load (.tmp 4) 7 true .plain, none⟩,
    ⟨none, .store (.tmp 2) (.tmp 77) 7, none⟩] [2])
  .ret))))))⟩
-- spec.l7Parcel
def c267 : CFn := ⟨30, [.cell 2 7 true],
  (.seq (.region [
    ⟨some 2, .alloc [.int .i64 0, .str ⟨#[]⟩, .int .i64 0, .sl .own 7 [], .str ⟨#[]⟩, .str ⟨#[]⟩, .int .i64 0], none⟩] [0, 2])
  (.seq (.seq (.region [
    ⟨some 3, .mov (.tmp 0), none⟩,
    ⟨some 4, .call 89 [true, false] [.tmp 3, .const (.int .i64 6)], none⟩] [0, 2, 4])
  (.block 0
    (.seq (.seq (.region [
      ⟨some 6, .bin .eql (.tmp 4) (.const (.int .i64 0)), none⟩,
      ⟨some 5, .mov (.tmp 6), none⟩] [0, 2, 4, 5])
    (.cond (.tmp 5)
      .skip
      (.region [
        ⟨some 7, .bin .eql (.tmp 4) (.const (.int .i64 1)), none⟩,
        ⟨some 5, .mov (.tmp 7), none⟩] [0, 2, 4, 5])))
    (.cond (.tmp 5)
      (.seq (.region [
        ⟨some 8, .mov (.tmp 0), none⟩,
        ⟨some 9, .call 89 [true, false] [.tmp 8, .const (.int .i64 9)], none⟩,
        ⟨some 10, .bin .add (.const (.int .i64 1)) (.tmp 9), none⟩,
        ⟨some 11, .mov (.tmp 0), none⟩,
        ⟨some 12, .call 145 [true] [.tmp 11], none⟩,
        ⟨some 13, .build [.int .i64 0, .str ⟨#[]⟩, .int .i64 0, .sl .own 7 [], .str ⟨#[]⟩, .str ⟨#[]⟩, .int .i64 0] [(0, 1, .const (.int .i64 1)), (1, 1, .const (.str ⟨#[97]⟩)), (2, 1, .tmp 10), (3, 1, .tmp 12)], none⟩,
        ⟨none, .store (.tmp 2) (.tmp 13) 7, none⟩] [2])
      .ret)
      (.seq (.region [
        ⟨some 15, .bin .eql (.tmp 4) (.const (.int .i64 2)), none⟩,
        ⟨some 14, .mov (.tmp 15), none⟩] [0, 2, 4, 14])
      (.cond (.tmp 14)
        (.seq (.region [
          ⟨some 16, .mov (.tmp 0), none⟩,
          ⟨some 17, .call 89 [true, false] [.tmp 16, .const (.int .i64 99)], none⟩,
          ⟨some 18, .build [.int .i64 0, .str ⟨#[]⟩, .int .i64 0, .sl .own 7 [], .str ⟨#[]⟩, .str ⟨#[]⟩, .int .i64 0] [(0, 1, .const (.int .i64 5)), (1, 1, .const (.str ⟨#[98]⟩)), (4, 1, .const (.str ⟨#[118, 111, 108]⟩)), (6, 1, .tmp 17)], none⟩,
          ⟨none, .store (.tmp 2) (.tmp 18) 7, none⟩] [2])
        .ret)
        (.seq (.region [
          ⟨some 20, .bin .eql (.tmp 4) (.const (.int .i64 3)), none⟩,
          ⟨some 19, .mov (.tmp 20), none⟩] [0, 2, 19])
        (.cond (.tmp 19)
          (.seq (.region [
            ⟨some 21, .mov (.tmp 0), none⟩,
            ⟨some 22, .call 89 [true, false] [.tmp 21, .const (.int .i64 9)], none⟩,
            ⟨some 23, .build [.int .i64 0, .str ⟨#[]⟩, .int .i64 0, .sl .own 7 [], .str ⟨#[]⟩, .str ⟨#[]⟩, .int .i64 0] [(0, 1, .const (.int .i64 6)), (1, 1, .const (.str ⟨#[98]⟩)), (2, 1, .tmp 22)], none⟩,
            ⟨none, .store (.tmp 2) (.tmp 23) 7, none⟩] [2])
          .ret)
          .skip))))))))
  (.seq (.region [
    ⟨some 24, .mov (.tmp 0), none⟩,
    ⟨some 25, .call 89 [true, false] [.tmp 24, .const (.int .i64 3)], none⟩,
    ⟨some 26, .bin .add (.const (.int .i64 2)) (.tmp 25), none⟩,
    ⟨some 27, .mov (.tmp 0), none⟩,
    ⟨some 28, .call 89 [true, false] [.tmp 27, .const (.int .i64 99)], none⟩,
    ⟨some 29, .build [.int .i64 0, .str ⟨#[]⟩, .int .i64 0, .sl .own 7 [], .str ⟨#[]⟩, .str ⟨#[]⟩, .int .i64 0] [(0, 1, .tmp 26), (1, 1, .const (.str ⟨#[97]⟩)), (4, 1, .const (.str ⟨#[118, 111, 108]⟩)), (5, 1, .const (.str ⟨#[99, 49]⟩)), (6, 1, .tmp 28)], none⟩,
    ⟨none, .store (.tmp 2) (.tmp 29) 7, none⟩] [2])
  .ret)))⟩
/-- The functions' own table. -/
def codeOf (k : Nat) : Option CFn :=
  match k with
  | 1 => some c1
  | 2 => some c2
  | 6 => some c6
  | 7 => some c7
  | 11 => some c11
  | 12 => some c12
  | 81 => some c81
  | 82 => some c82
  | 84 => some c84
  | 85 => some c85
  | 87 => some c87
  | 88 => some c88
  | 89 => some c89
  | 90 => some c90
  | 91 => some c91
  | 95 => some c95
  | 100 => some c100
  | 101 => some c101
  | 102 => some c102
  | 105 => some c105
  | 106 => some c106
  | 118 => some c118
  | 140 => some c140
  | 143 => some c143
  | 144 => some c144
  | 145 => some c145
  | 160 => some c160
  | 162 => some c162
  | 189 => some c189
  | 194 => some c194
  | 207 => some c207
  | 218 => some c218
  | 226 => some c226
  | 235 => some c235
  | 236 => some c236
  | 239 => some c239
  | 240 => some c240
  | 262 => some c262
  | 263 => some c263
  | 264 => some c264
  | 265 => some c265
  | 266 => some c266
  | 267 => some c267
  | _ => none
def P : CProg := ⟨codeOf, prim⟩
@[simp] theorem fn1 : P.fn 1 = some c1 := rfl
@[simp] theorem fn2 : P.fn 2 = some c2 := rfl
@[simp] theorem fn6 : P.fn 6 = some c6 := rfl
@[simp] theorem fn7 : P.fn 7 = some c7 := rfl
@[simp] theorem fn11 : P.fn 11 = some c11 := rfl
@[simp] theorem fn12 : P.fn 12 = some c12 := rfl
@[simp] theorem fn81 : P.fn 81 = some c81 := rfl
@[simp] theorem fn82 : P.fn 82 = some c82 := rfl
@[simp] theorem fn84 : P.fn 84 = some c84 := rfl
@[simp] theorem fn85 : P.fn 85 = some c85 := rfl
@[simp] theorem fn87 : P.fn 87 = some c87 := rfl
@[simp] theorem fn88 : P.fn 88 = some c88 := rfl
@[simp] theorem fn89 : P.fn 89 = some c89 := rfl
@[simp] theorem fn90 : P.fn 90 = some c90 := rfl
@[simp] theorem fn91 : P.fn 91 = some c91 := rfl
@[simp] theorem fn95 : P.fn 95 = some c95 := rfl
@[simp] theorem fn100 : P.fn 100 = some c100 := rfl
@[simp] theorem fn101 : P.fn 101 = some c101 := rfl
@[simp] theorem fn102 : P.fn 102 = some c102 := rfl
@[simp] theorem fn105 : P.fn 105 = some c105 := rfl
@[simp] theorem fn106 : P.fn 106 = some c106 := rfl
@[simp] theorem fn118 : P.fn 118 = some c118 := rfl
@[simp] theorem fn140 : P.fn 140 = some c140 := rfl
@[simp] theorem fn143 : P.fn 143 = some c143 := rfl
@[simp] theorem fn144 : P.fn 144 = some c144 := rfl
@[simp] theorem fn145 : P.fn 145 = some c145 := rfl
@[simp] theorem fn160 : P.fn 160 = some c160 := rfl
@[simp] theorem fn162 : P.fn 162 = some c162 := rfl
@[simp] theorem fn189 : P.fn 189 = some c189 := rfl
@[simp] theorem fn194 : P.fn 194 = some c194 := rfl
@[simp] theorem fn207 : P.fn 207 = some c207 := rfl
@[simp] theorem fn218 : P.fn 218 = some c218 := rfl
@[simp] theorem fn226 : P.fn 226 = some c226 := rfl
@[simp] theorem fn235 : P.fn 235 = some c235 := rfl
@[simp] theorem fn236 : P.fn 236 = some c236 := rfl
@[simp] theorem fn239 : P.fn 239 = some c239 := rfl
@[simp] theorem fn240 : P.fn 240 = some c240 := rfl
@[simp] theorem fn262 : P.fn 262 = some c262 := rfl
@[simp] theorem fn263 : P.fn 263 = some c263 := rfl
@[simp] theorem fn264 : P.fn 264 = some c264 := rfl
@[simp] theorem fn265 : P.fn 265 = some c265 := rfl
@[simp] theorem fn266 : P.fn 266 = some c266 := rfl
@[simp] theorem fn267 : P.fn 267 = some c267 := rfl
end Go.Proofs.YtaikddhcplfpmaaGreatDoor
