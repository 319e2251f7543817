/- The abstract code of the program's functions, printed by a program of ours out of Lean's own print of the translation. -/
import Derived.Test.YtgdjnflnfeakjaaB1
namespace Go.Proofs.Ytgdjnflnfeakjaa
open Go
-- impl.MateWantsOk
def c6b0 : CCode := (.seq (.region [
    ⟨some 10, .bin .lss (.tmp 9) (.tmp 8), none⟩] [0, 3, 7, 8, 9, 10])
  (.seq (.cond (.tmp 10)
    .skip
    (.exit 0))
  (.seq (.block 1
    (.seq (.region [
      ⟨some 11, .mov (.tmp 9), none⟩,
      ⟨some 12, .iaddr 7 (.tmp 7) (.tmp 9), none⟩,
      ⟨some 13, .load (.tmp 12) 7 true .plain, none⟩,
      ⟨some 5, .alloc [.str ⟨#[]⟩, .int .i64 0, .str ⟨#[]⟩, .int .i64 0, .int .i64 0, .int .i64 0, .int .i64 0], none⟩,
      ⟨some 4, .mov (.tmp 11), none⟩,
      ⟨none, .store (.tmp 5) (.tmp 13) 7, none⟩] [0, 3, 4, 5, 7, 8, 9])
    (.seq (.seq (.quiet [
      ⟨some 14, .load (.tmp 5) 7 true .plain, none⟩,
      ⟨some 15, .call 82 [false] [.tmp 14], none⟩,
      ⟨some 16, .un .not (.tmp 15), none⟩,
      ⟨some 17, .mov (.tmp 16), none⟩,
      ⟨some 18, .mov (.tmp 4), some (17, false)⟩,
      ⟨some 19, .bin .gtr (.tmp 18) (.const (.int .i64 0)), some (17, false)⟩,
      ⟨some 20, .mov (.tmp 19), some (17, false)⟩,
      ⟨some 21, .mov (.tmp 0), some (20, true)⟩,
      ⟨some 22, .mov (.tmp 4), some (20, true)⟩,
      ⟨some 23, .bin .sub (.tmp 22) (.const (.int .i64 1)), some (20, true)⟩,
      ⟨some 24, .iaddr 7 (.tmp 21) (.tmp 23), some (20, true)⟩,
      ⟨some 25, .faddr (.tmp 24) 0, some (20, true)⟩,
      ⟨some 26, .load (.tmp 25) 1 false .plain, some (20, true)⟩,
      ⟨some 27, .faddr (.tmp 5) 0, some (20, true)⟩,
      ⟨some 28, .load (.tmp 27) 1 false .plain, some (20, true)⟩,
      ⟨some 29, .bin .geq (.tmp 26) (.tmp 28), some (20, true)⟩,
      ⟨some 30, .pick (.tmp 20) (.tmp 29) (.const (.bool false)), some (17, false)⟩,
      ⟨some 31, .pick (.tmp 17) (.const (.bool true)) (.tmp 30), none⟩,
      ⟨some 32, .mov (.tmp 31), none⟩,
      ⟨some 33, .faddr (.tmp 5) 2, some (32, false)⟩,
      ⟨some 34, .load (.tmp 33) 1 false .plain, some (32, false)⟩,
      ⟨some 35, .bin .neq (.tmp 34) (.const (.str ⟨#[]⟩)), some (32, false)⟩,
      ⟨some 36, .mov (.tmp 35), some (32, false)⟩,
      ⟨some 37, .mov (.tmp 3), some (36, true)⟩,
      ⟨some 38, .faddr (.tmp 5) 2, some (36, true)⟩,
      ⟨some 39, .load (.tmp 38) 1 false .plain, some (36, true)⟩,
      ⟨some 40, .lookup false (.bool false) (.tmp 37) (.tmp 39), some (36, true)⟩,
      ⟨some 41, .pick (.tmp 36) (.tmp 40) (.const (.bool false)), some (32, false)⟩,
      ⟨some 42, .pick (.tmp 32) (.const (.bool true)) (.tmp 41), none⟩] [0, 3, 5, 7, 8, 9, 42])
    (.cond (.tmp 42)
      (.seq (.region [
        ⟨some 2, .mov (.const (.bool false)), none⟩] [2])
      .ret)
      .skip))
    (.region [
      ⟨some 43, .mov (.tmp 3), none⟩,
      ⟨some 44, .faddr (.tmp 5) 2, none⟩,
      ⟨some 45, .load (.tmp 44) 1 false .plain, none⟩,
      ⟨none, .mapset false (.tmp 43) (.tmp 45) (.const (.bool true)), none⟩] [0, 3, 7, 8, 9]))))
  (.region [
    ⟨some 46, .bin .add (.tmp 9) (.const (.int .i64 1)), none⟩,
    ⟨some 9, .mov (.tmp 46), none⟩] [0, 3, 7, 8, 9]))))
def c6 : CFn := ⟨50, [.tmp 2],
  (.seq (.region [
    ⟨some 2, .mov (.const (.bool false)), none⟩] [0])
  (.seq (.region [
    ⟨some 6, .mkmap false, none⟩,
    ⟨some 3, .mov (.tmp 6), none⟩] [0, 3])
  (.seq (.seq (.region [
    ⟨some 7, .mov (.tmp 0), none⟩,
    ⟨some 8, .len false (.tmp 7), none⟩,
    ⟨some 9, .mov (.const (.int .i64 0)), none⟩] [0, 3, 7, 8, 9])
  (.block 0
    (.loop [0, 3, 7, 8, 9] c6b0)))
  (.seq (.region [
    ⟨some 47, .mov (.tmp 0), none⟩,
    ⟨some 48, .len false (.tmp 47), none⟩,
    ⟨some 49, .bin .leq (.tmp 48) (.const (.int .i64 10)), none⟩,
    ⟨some 2, .mov (.tmp 49), none⟩] [2])
  .ret))))⟩
-- spec.MateWantsOk
def c7b0 : CCode := (.seq (.seq (.region [
    ⟨some 38, .mov (.tmp 4), none⟩,
    ⟨some 39, .mov (.tmp 3), none⟩,
    ⟨some 40, .bin .lss (.tmp 38) (.tmp 39), none⟩] [0, 3, 4, 40])
  (.cond (.tmp 40)
    .skip
    (.exit 2)))
  (.seq (.block 3
    (.seq (.quiet [
      ⟨some 43, .mov (.tmp 0), none⟩,
      ⟨some 44, .mov (.tmp 3), none⟩,
      ⟨some 45, .iaddr 7 (.tmp 43) (.tmp 44), none⟩,
      ⟨some 46, .faddr (.tmp 45) 2, none⟩,
      ⟨some 47, .load (.tmp 46) 1 false .plain, none⟩,
      ⟨some 48, .bin .neq (.tmp 47) (.const (.str ⟨#[]⟩)), none⟩,
      ⟨some 49, .mov (.tmp 48), none⟩,
      ⟨some 50, .mov (.tmp 0), some (49, true)⟩,
      ⟨some 51, .mov (.tmp 4), some (49, true)⟩,
      ⟨some 52, .iaddr 7 (.tmp 50) (.tmp 51), some (49, true)⟩,
      ⟨some 53, .faddr (.tmp 52) 2, some (49, true)⟩,
      ⟨some 54, .load (.tmp 53) 1 false .plain, some (49, true)⟩,
      ⟨some 55, .mov (.tmp 0), some (49, true)⟩,
      ⟨some 56, .mov (.tmp 3), some (49, true)⟩,
      ⟨some 57, .iaddr 7 (.tmp 55) (.tmp 56), some (49, true)⟩,
      ⟨some 58, .faddr (.tmp 57) 2, some (49, true)⟩,
      ⟨some 59, .load (.tmp 58) 1 false .plain, some (49, true)⟩,
      ⟨some 60, .bin .eql (.tmp 54) (.tmp 59), some (49, true)⟩,
      ⟨some 61, .pick (.tmp 49) (.tmp 60) (.const (.bool false)), none⟩] [0, 3, 4, 61])
    (.cond (.tmp 61)
      (.seq (.region [
        ⟨some 2, .mov (.const (.bool false)), none⟩] [2])
      .ret)
      .skip)))
  (.region [
    ⟨some 41, .mov (.tmp 4), none⟩,
    ⟨some 42, .bin .add (.tmp 41) (.const (.int .i64 1)), none⟩,
    ⟨some 4, .mov (.tmp 42), none⟩] [0, 3, 4])))
def c7b1 : CCode := (.seq (.seq (.region [
    ⟨some 8, .mov (.tmp 3), none⟩,
    ⟨some 9, .mov (.tmp 0), none⟩,
    ⟨some 10, .len false (.tmp 9), none⟩,
    ⟨some 11, .bin .lss (.tmp 8) (.tmp 10), none⟩] [0, 3, 11])
  (.cond (.tmp 11)
    .skip
    (.exit 0)))
  (.seq (.block 1
    (.seq (.seq (.quiet [
      ⟨some 14, .mov (.tmp 0), none⟩,
      ⟨some 15, .mov (.tmp 3), none⟩,
      ⟨some 16, .iaddr 7 (.tmp 14) (.tmp 15), none⟩,
      ⟨some 17, .load (.tmp 16) 7 true .plain, none⟩,
      ⟨some 18, .call 81 [false] [.tmp 17], none⟩,
      ⟨some 19, .un .not (.tmp 18), none⟩,
      ⟨some 20, .mov (.tmp 19), none⟩,
      ⟨some 21, .mov (.tmp 3), some (20, false)⟩,
      ⟨some 22, .bin .gtr (.tmp 21) (.const (.int .i64 0)), some (20, false)⟩,
      ⟨some 23, .mov (.tmp 22), some (20, false)⟩,
      ⟨some 24, .mov (.tmp 0), some (23, true)⟩,
      ⟨some 25, .mov (.tmp 3), some (23, true)⟩,
      ⟨some 26, .bin .sub (.tmp 25) (.const (.int .i64 1)), some (23, true)⟩,
      ⟨some 27, .iaddr 7 (.tmp 24) (.tmp 26), some (23, true)⟩,
      ⟨some 28, .faddr (.tmp 27) 0, some (23, true)⟩,
      ⟨some 29, .load (.tmp 28) 1 false .plain, some (23, true)⟩,
      ⟨some 30, .mov (.tmp 0), some (23, true)⟩,
      ⟨some 31, .mov (.tmp 3), some (23, true)⟩,
      ⟨some 32, .iaddr 7 (.tmp 30) (.tmp 31), some (23, true)⟩,
      ⟨some 33, .faddr (.tmp 32) 0, some (23, true)⟩,
      ⟨some 34, .load (.tmp 33) 1 false .plain, some (23, true)⟩,
      ⟨some 35, .bin .geq (.tmp 29) (.tmp 34), some (23, true)⟩,
      ⟨some 36, .pick (.tmp 23) (.tmp 35) (.const (.bool false)), some (20, false)⟩,
      ⟨some 37, .pick (.tmp 20) (.const (.bool true)) (.tmp 36), none⟩] [0, 3, 37])
    (.cond (.tmp 37)
      (.seq (.region [
        ⟨some 2, .mov (.const (.bool false)), none⟩] [2])
      .ret)
      .skip))
    (.seq (.region [
      ⟨some 4, .mov (.const (.int .i64 0)), none⟩] [0, 3, 4])
    (.block 2
      (.loop [0, 3, 4] c7b0)))))
  (.region [
    ⟨some 12, .mov (.tmp 3), none⟩,
    ⟨some 13, .bin .add (.tmp 12) (.const (.int .i64 1)), none⟩,
    ⟨some 3, .mov (.tmp 13), none⟩] [0, 3])))
def c7 : CFn := ⟨62, [.tmp 2],
  (.seq (.region [
    ⟨some 2, .mov (.const (.bool false)), none⟩] [0])
  (.seq (.seq (.region [
    ⟨some 5, .mov (.tmp 0), none⟩,
    ⟨some 6, .len false (.tmp 5), none⟩,
    ⟨some 7, .bin .gtr (.tmp 6) (.const (.int .i64 10)), none⟩] [0, 7])
  (.cond (.tmp 7)
    (.seq (.region [
      ⟨some 2, .mov (.const (.bool false)), none⟩] [2])
    .ret)
    .skip))
  (.seq (.seq (.region [
    ⟨some 3, .mov (.const (.int .i64 0)), none⟩] [0, 3])
  (.block 0
    (.loop [0, 3] c7b1)))
  (.seq (.region [
    ⟨some 2, .mov (.const (.bool true)), none⟩] [2])
  .ret))))⟩
-- impl.MateLandOk
def c23b0 : CCode := (.seq (.region [
    ⟨some 36, .bin .lss (.tmp 35) (.tmp 34), none⟩] [1, 33, 34, 35, 36])
  (.seq (.cond (.tmp 36)
    .skip
    (.exit 0))
  (.seq (.block 1
    (.seq (.region [
      ⟨some 37, .mov (.tmp 35), none⟩,
      ⟨some 38, .iaddr 5 (.tmp 33) (.tmp 35), none⟩,
      ⟨some 39, .load (.tmp 38) 5 true .plain, none⟩,
      ⟨some 4, .alloc [.str ⟨#[]⟩, .str ⟨#[]⟩, .str ⟨#[]⟩, .int .i64 0, .int .i64 0], none⟩,
      ⟨some 3, .mov (.tmp 37), none⟩,
      ⟨none, .store (.tmp 4) (.tmp 39) 5, none⟩] [1, 3, 4, 33, 34, 35])
    (.seq (.quiet [
      ⟨some 40, .faddr (.tmp 4) 0, none⟩,
      ⟨some 41, .load (.tmp 40) 1 false .plain, none⟩,
      ⟨some 42, .call 106 [false] [.tmp 41], none⟩,
      ⟨some 43, .un .not (.tmp 42), none⟩,
      ⟨some 44, .mov (.tmp 43), none⟩,
      ⟨some 45, .faddr (.tmp 4) 1, some (44, false)⟩,
      ⟨some 46, .load (.tmp 45) 1 false .plain, some (44, false)⟩,
      ⟨some 47, .call 105 [false] [.tmp 46], some (44, false)⟩,
      ⟨some 48, .un .not (.tmp 47), some (44, false)⟩,
      ⟨some 49, .pick (.tmp 44) (.const (.bool true)) (.tmp 48), none⟩,
      ⟨some 50, .mov (.tmp 49), none⟩,
      ⟨some 51, .faddr (.tmp 4) 2, some (50, false)⟩,
      ⟨some 52, .load (.tmp 51) 1 false .plain, some (50, false)⟩,
      ⟨some 53, .call 105 [false] [.tmp 52], some (50, false)⟩,
      ⟨some 54, .un .not (.tmp 53), some (50, false)⟩,
      ⟨some 55, .pick (.tmp 50) (.const (.bool true)) (.tmp 54), none⟩,
      ⟨some 56, .mov (.tmp 55), none⟩,
      ⟨some 57, .mov (.tmp 3), some (56, false)⟩,
      ⟨some 58, .bin .gtr (.tmp 57) (.const (.int .i64 0)), some (56, false)⟩,
      ⟨some 59, .mov (.tmp 58), some (56, false)⟩,
      ⟨some 60, .faddr (.tmp 1) 1, some (59, true)⟩,
      ⟨some 61, .load (.tmp 60) 1 false .plain, some (59, true)⟩,
      ⟨some 62, .mov (.tmp 3), some (59, true)⟩,
      ⟨some 63, .bin .sub (.tmp 62) (.const (.int .i64 1)), some (59, true)⟩,
      ⟨some 64, .iaddr 5 (.tmp 61) (.tmp 63), some (59, true)⟩,
      ⟨some 65, .faddr (.tmp 64) 0, some (59, true)⟩,
      ⟨some 66, .load (.tmp 65) 1 false .plain, some (59, true)⟩,
      ⟨some 67, .faddr (.tmp 4) 0, some (59, true)⟩,
      ⟨some 68, .load (.tmp 67) 1 false .plain, some (59, true)⟩,
      ⟨some 69, .bin .geq (.tmp 66) (.tmp 68), some (59, true)⟩,
      ⟨some 70, .pick (.tmp 59) (.tmp 69) (.const (.bool false)), some (56, false)⟩,
      ⟨some 71, .pick (.tmp 56) (.const (.bool true)) (.tmp 70), none⟩,
      ⟨some 72, .mov (.tmp 71), none⟩,
      ⟨some 73, .faddr (.tmp 4) 3, some (72, false)⟩,
      ⟨some 74, .load (.tmp 73) 1 false .plain, some (72, false)⟩,
      ⟨some 75, .call 85 [false, false, false] [.tmp 74, .const (.int .i64 0), .const (.int .i64 1000000)], some (72, false)⟩,
      ⟨some 76, .un .not (.tmp 75), some (72, false)⟩,
      ⟨some 77, .pick (.tmp 72) (.const (.bool true)) (.tmp 76), none⟩,
      ⟨some 78, .mov (.tmp 77), none⟩,
      ⟨some 79, .faddr (.tmp 4) 4, some (78, false)⟩,
      ⟨some 80, .load (.tmp 79) 1 false .plain, some (78, false)⟩,
      ⟨some 81, .faddr (.tmp 1) 0, some (78, false)⟩,
      ⟨some 82, .load (.tmp 81) 1 false .plain, some (78, false)⟩,
      ⟨some 83, .bin .add (.tmp 82) (.const (.int .i64 32)), some (78, false)⟩,
      ⟨some 84, .call 85 [false, false, false] [.tmp 80, .const (.int .i64 0), .tmp 83], some (78, false)⟩,
      ⟨some 85, .un .not (.tmp 84), some (78, false)⟩,
      ⟨some 86, .pick (.tmp 78) (.const (.bool true)) (.tmp 85), none⟩] [1, 33, 34, 35, 86])
    (.cond (.tmp 86)
      (.seq (.region [
        ⟨some 2, .mov (.const (.bool false)), none⟩] [2])
      .ret)
      .skip))))
  (.region [
    ⟨some 87, .bin .add (.tmp 35) (.const (.int .i64 1)), none⟩,
    ⟨some 35, .mov (.tmp 87), none⟩] [1, 33, 34, 35]))))
def c23b1 : CCode := (.seq (.region [
    ⟨some 133, .bin .lss (.tmp 132) (.tmp 131), none⟩] [1, 5, 90, 91, 92, 130, 131, 132, 133])
  (.seq (.cond (.tmp 133)
    .skip
    (.exit 4))
  (.seq (.block 5
    (.seq (.region [
      ⟨some 134, .iaddr 7 (.tmp 130) (.tmp 132), none⟩,
      ⟨some 135, .load (.tmp 134) 7 true .plain, none⟩,
      ⟨some 9, .alloc [.str ⟨#[]⟩, .int .i64 0, .str ⟨#[]⟩, .int .i64 0, .int .i64 0, .int .i64 0, .int .i64 0], none⟩,
      ⟨none, .store (.tmp 9) (.tmp 135) 7, none⟩] [1, 5, 9, 90, 91, 92, 130, 131, 132])
    (.seq (.seq (.region [
      ⟨some 136, .faddr (.tmp 9) 2, none⟩,
      ⟨some 137, .load (.tmp 136) 1 false .plain, none⟩,
      ⟨some 138, .bin .neq (.tmp 137) (.const (.str ⟨#[]⟩)), none⟩,
      ⟨some 139, .mov (.tmp 138), none⟩,
      ⟨some 140, .mov (.tmp 5), some (139, true)⟩,
      ⟨some 141, .faddr (.tmp 9) 2, some (139, true)⟩,
      ⟨some 142, .load (.tmp 141) 1 false .plain, some (139, true)⟩,
      ⟨some 143, .lookup false (.bool false) (.tmp 140) (.tmp 142), some (139, true)⟩,
      ⟨some 144, .pick (.tmp 139) (.tmp 143) (.const (.bool false)), none⟩] [1, 5, 9, 90, 91, 92, 130, 131, 132, 144])
    (.cond (.tmp 144)
      (.seq (.region [
        ⟨some 2, .mov (.const (.bool false)), none⟩] [2])
      .ret)
      .skip))
    (.region [
      ⟨some 145, .mov (.tmp 5), none⟩,
      ⟨some 146, .faddr (.tmp 9) 2, none⟩,
      ⟨some 147, .load (.tmp 146) 1 false .plain, none⟩,
      ⟨none, .mapset false (.tmp 145) (.tmp 147) (.const (.bool true)), none⟩] [1, 5, 90, 91, 92, 130, 131, 132]))))
  (.region [
    ⟨some 148, .bin .add (.tmp 132) (.const (.int .i64 1)), none⟩,
    ⟨some 132, .mov (.tmp 148), none⟩] [1, 5, 90, 91, 92, 130, 131, 132]))))
def c23b2 : CCode := (.seq (.region [
    ⟨some 93, .bin .lss (.tmp 92) (.tmp 91), none⟩] [1, 5, 90, 91, 92, 93])
  (.seq (.cond (.tmp 93)
    .skip
    (.exit 2))
  (.seq (.block 3
    (.seq (.region [
      ⟨some 94, .mov (.tmp 92), none⟩,
      ⟨some 95, .iaddr 3 (.tmp 90) (.tmp 92), none⟩,
      ⟨some 96, .load (.tmp 95) 3 true .plain, none⟩,
      ⟨some 7, .alloc [.str ⟨#[]⟩, .int .i64 0, .sl .own 7 []], none⟩,
      ⟨some 6, .mov (.tmp 94), none⟩,
      ⟨none, .store (.tmp 7) (.tmp 96) 3, none⟩] [1, 5, 6, 7, 90, 91, 92])
    (.seq (.seq (.quiet [
      ⟨some 97, .faddr (.tmp 7) 0, none⟩,
      ⟨some 98, .load (.tmp 97) 1 false .plain, none⟩,
      ⟨some 99, .call 105 [false] [.tmp 98], none⟩,
      ⟨some 100, .un .not (.tmp 99), none⟩,
      ⟨some 101, .mov (.tmp 100), none⟩,
      ⟨some 102, .mov (.tmp 6), some (101, false)⟩,
      ⟨some 103, .bin .gtr (.tmp 102) (.const (.int .i64 0)), some (101, false)⟩,
      ⟨some 104, .mov (.tmp 103), some (101, false)⟩,
      ⟨some 105, .faddr (.tmp 1) 2, some (104, true)⟩,
      ⟨some 106, .load (.tmp 105) 1 false .plain, some (104, true)⟩,
      ⟨some 107, .mov (.tmp 6), some (104, true)⟩,
      ⟨some 108, .bin .sub (.tmp 107) (.const (.int .i64 1)), some (104, true)⟩,
      ⟨some 109, .iaddr 3 (.tmp 106) (.tmp 108), some (104, true)⟩,
      ⟨some 110, .faddr (.tmp 109) 0, some (104, true)⟩,
      ⟨some 111, .load (.tmp 110) 1 false .plain, some (104, true)⟩,
      ⟨some 112, .faddr (.tmp 7) 0, some (104, true)⟩,
      ⟨some 113, .load (.tmp 112) 1 false .plain, some (104, true)⟩,
      ⟨some 114, .bin .geq (.tmp 111) (.tmp 113), some (104, true)⟩,
      ⟨some 115, .pick (.tmp 104) (.tmp 114) (.const (.bool false)), some (101, false)⟩,
      ⟨some 116, .pick (.tmp 101) (.const (.bool true)) (.tmp 115), none⟩,
      ⟨some 117, .mov (.tmp 116), none⟩,
      ⟨some 118, .faddr (.tmp 7) 1, some (117, false)⟩,
      ⟨some 119, .load (.tmp 118) 1 false .plain, some (117, false)⟩,
      ⟨some 120, .call 85 [false, false, false] [.tmp 119, .const (.int .i64 1), .const (.int .i64 1000000)], some (117, false)⟩,
      ⟨some 121, .un .not (.tmp 120), some (117, false)⟩,
      ⟨some 122, .pick (.tmp 117) (.const (.bool true)) (.tmp 121), none⟩,
      ⟨some 123, .mov (.tmp 122), none⟩,
      ⟨some 124, .faddr (.tmp 7) 2, some (123, false)⟩,
      ⟨some 125, .load (.tmp 124) 1 false .plain, some (123, false)⟩,
      ⟨some 126, .call 6 [false] [.tmp 125], some (123, false)⟩,
      ⟨some 127, .un .not (.tmp 126), some (123, false)⟩,
      ⟨some 128, .pick (.tmp 123) (.const (.bool true)) (.tmp 127), none⟩] [1, 5, 7, 90, 91, 92, 128])
    (.cond (.tmp 128)
      (.seq (.region [
        ⟨some 2, .mov (.const (.bool false)), none⟩] [2])
      .ret)
      .skip))
    (.seq (.region [
      ⟨some 129, .faddr (.tmp 7) 2, none⟩,
      ⟨some 130, .load (.tmp 129) 1 false .plain, none⟩,
      ⟨some 131, .len false (.tmp 130), none⟩,
      ⟨some 132, .mov (.const (.int .i64 0)), none⟩] [1, 5, 90, 91, 92, 130, 131, 132])
    (.block 4
      (.loop [1, 5, 90, 91, 92, 130, 131, 132] c23b1))))))
  (.region [
    ⟨some 149, .bin .add (.tmp 92) (.const (.int .i64 1)), none⟩,
    ⟨some 92, .mov (.tmp 149), none⟩] [1, 5, 90, 91, 92]))))
def c23 : CFn := ⟨150, [.tmp 2],
  (.seq (.region [
    ⟨some 1, .box (.tmp 0), none⟩,
    ⟨some 2, .mov (.const (.bool false)), none⟩] [1])
  (.seq (.seq (.region [
    ⟨some 10, .faddr (.tmp 1) 0, none⟩,
    ⟨some 11, .load (.tmp 10) 1 false .plain, none⟩,
    ⟨some 12, .call 85 [false, false, false] [.tmp 11, .const (.int .i64 0), .const (.int .i64 2000000)], none⟩,
    ⟨some 13, .un .not (.tmp 12), none⟩,
    ⟨some 14, .mov (.tmp 13), none⟩,
    ⟨some 15, .faddr (.tmp 1) 0, some (14, false)⟩,
    ⟨some 16, .load (.tmp 15) 1 false .plain, some (14, false)⟩,
    ⟨some 17, .bin .rem (.tmp 16) (.const (.int .i64 2)), some (14, false)⟩,
    ⟨some 18, .bin .neq (.tmp 17) (.const (.int .i64 0)), some (14, false)⟩,
    ⟨some 19, .pick (.tmp 14) (.const (.bool true)) (.tmp 18), none⟩,
    ⟨some 20, .mov (.tmp 19), none⟩,
    ⟨some 21, .faddr (.tmp 1) 1, some (20, false)⟩,
    ⟨some 22, .load (.tmp 21) 1 false .plain, some (20, false)⟩,
    ⟨some 23, .len false (.tmp 22), some (20, false)⟩,
    ⟨some 24, .bin .gtr (.tmp 23) (.const (.int .i64 40)), some (20, false)⟩,
    ⟨some 25, .pick (.tmp 20) (.const (.bool true)) (.tmp 24), none⟩,
    ⟨some 26, .mov (.tmp 25), none⟩,
    ⟨some 27, .faddr (.tmp 1) 2, some (26, false)⟩,
    ⟨some 28, .load (.tmp 27) 1 false .plain, some (26, false)⟩,
    ⟨some 29, .len false (.tmp 28), some (26, false)⟩,
    ⟨some 30, .bin .gtr (.tmp 29) (.const (.int .i64 4)), some (26, false)⟩,
    ⟨some 31, .pick (.tmp 26) (.const (.bool true)) (.tmp 30), none⟩] [1, 31])
  (.cond (.tmp 31)
    (.seq (.region [
      ⟨some 2, .mov (.const (.bool false)), none⟩] [2])
    .ret)
    .skip))
  (.seq (.seq (.region [
    ⟨some 32, .faddr (.tmp 1) 1, none⟩,
    ⟨some 33, .load (.tmp 32) 1 false .plain, none⟩,
    ⟨some 34, .len false (.tmp 33), none⟩,
    ⟨some 35, .mov (.const (.int .i64 0)), none⟩] [1, 33, 34, 35])
  (.block 0
    (.loop [1, 33, 34, 35] c23b0)))
  (.seq (.region [
    ⟨some 88, .mkmap false, none⟩,
    ⟨some 5, .mov (.tmp 88), none⟩] [1, 5])
  (.seq (.seq (.region [
    ⟨some 89, .faddr (.tmp 1) 2, none⟩,
    ⟨some 90, .load (.tmp 89) 1 false .plain, none⟩,
    ⟨some 91, .len false (.tmp 90), none⟩,
    ⟨some 92, .mov (.const (.int .i64 0)), none⟩] [1, 5, 90, 91, 92])
  (.block 2
    (.loop [1, 5, 90, 91, 92] c23b2)))
  (.seq (.region [
    ⟨some 2, .mov (.const (.bool true)), none⟩] [2])
  .ret))))))⟩
-- spec.MateLandOk
def c24b0 : CCode := (.seq (.seq (.region [
    ⟨some 21, .mov (.tmp 3), none⟩,
    ⟨some 22, .faddr (.tmp 1) 1, none⟩,
    ⟨some 23, .load (.tmp 22) 1 false .plain, none⟩,
    ⟨some 24, .len false (.tmp 23), none⟩,
    ⟨some 25, .bin .lss (.tmp 21) (.tmp 24), none⟩] [1, 3, 25])
  (.cond (.tmp 25)
    .skip
    (.exit 0)))
  (.seq (.block 1
    (.seq (.region [
      ⟨some 28, .faddr (.tmp 1) 1, none⟩,
      ⟨some 29, .load (.tmp 28) 1 false .plain, none⟩,
      ⟨some 30, .mov (.tmp 3), none⟩,
      ⟨some 31, .iaddr 5 (.tmp 29) (.tmp 30), none⟩,
      ⟨some 32, .load (.tmp 31) 5 true .plain, none⟩,
      ⟨some 4, .alloc [.str ⟨#[]⟩, .str ⟨#[]⟩, .str ⟨#[]⟩, .int .i64 0, .int .i64 0], none⟩,
      ⟨none, .store (.tmp 4) (.tmp 32) 5, none⟩] [1, 3, 4])
    (.seq (.quiet [
      ⟨some 33, .faddr (.tmp 4) 0, none⟩,
      ⟨some 34, .load (.tmp 33) 1 false .plain, none⟩,
      ⟨some 35, .call 100 [false] [.tmp 34], none⟩,
      ⟨some 36, .un .not (.tmp 35), none⟩,
      ⟨some 37, .mov (.tmp 36), none⟩,
      ⟨some 38, .faddr (.tmp 4) 1, some (37, false)⟩,
      ⟨some 39, .load (.tmp 38) 1 false .plain, some (37, false)⟩,
      ⟨some 40, .call 101 [false] [.tmp 39], some (37, false)⟩,
      ⟨some 41, .un .not (.tmp 40), some (37, false)⟩,
      ⟨some 42, .pick (.tmp 37) (.const (.bool true)) (.tmp 41), none⟩,
      ⟨some 43, .mov (.tmp 42), none⟩,
      ⟨some 44, .faddr (.tmp 4) 2, some (43, false)⟩,
      ⟨some 45, .load (.tmp 44) 1 false .plain, some (43, false)⟩,
      ⟨some 46, .call 101 [false] [.tmp 45], some (43, false)⟩,
      ⟨some 47, .un .not (.tmp 46), some (43, false)⟩,
      ⟨some 48, .pick (.tmp 43) (.const (.bool true)) (.tmp 47), none⟩,
      ⟨some 49, .mov (.tmp 48), none⟩,
      ⟨some 50, .faddr (.tmp 4) 3, some (49, false)⟩,
      ⟨some 51, .load (.tmp 50) 1 false .plain, some (49, false)⟩,
      ⟨some 52, .call 102 [false, false, false] [.tmp 51, .const (.int .i64 0), .const (.int .i64 1000000)], some (49, false)⟩,
      ⟨some 53, .un .not (.tmp 52), some (49, false)⟩,
      ⟨some 54, .pick (.tmp 49) (.const (.bool true)) (.tmp 53), none⟩,
      ⟨some 55, .mov (.tmp 54), none⟩,
      ⟨some 56, .faddr (.tmp 4) 4, some (55, false)⟩,
      ⟨some 57, .load (.tmp 56) 1 false .plain, some (55, false)⟩,
      ⟨some 58, .faddr (.tmp 1) 0, some (55, false)⟩,
      ⟨some 59, .load (.tmp 58) 1 false .plain, some (55, false)⟩,
      ⟨some 60, .bin .add (.tmp 59) (.const (.int .i64 32)), some (55, false)⟩,
      ⟨some 61, .call 102 [false, false, false] [.tmp 57, .const (.int .i64 0), .tmp 60], some (55, false)⟩,
      ⟨some 62, .un .not (.tmp 61), some (55, false)⟩,
      ⟨some 63, .pick (.tmp 55) (.const (.bool true)) (.tmp 62), none⟩,
      ⟨some 64, .mov (.tmp 63), none⟩,
      ⟨some 65, .mov (.tmp 3), some (64, false)⟩,
      ⟨some 66, .bin .gtr (.tmp 65) (.const (.int .i64 0)), some (64, false)⟩,
      ⟨some 67, .mov (.tmp 66), some (64, false)⟩,
      ⟨some 68, .faddr (.tmp 1) 1, some (67, true)⟩,
      ⟨some 69, .load (.tmp 68) 1 false .plain, some (67, true)⟩,
      ⟨some 70, .mov (.tmp 3), some (67, true)⟩,
      ⟨some 71, .bin .sub (.tmp 70) (.const (.int .i64 1)), some (67, true)⟩,
      ⟨some 72, .iaddr 5 (.tmp 69) (.tmp 71), some (67, true)⟩,
      ⟨some 73, .faddr (.tmp 72) 0, some (67, true)⟩,
      ⟨some 74, .load (.tmp 73) 1 false .plain, some (67, true)⟩,
      ⟨some 75, .faddr (.tmp 4) 0, some (67, true)⟩,
      ⟨some 76, .load (.tmp 75) 1 false .plain, some (67, true)⟩,
      ⟨some 77, .bin .geq (.tmp 74) (.tmp 76), some (67, true)⟩,
      ⟨some 78, .pick (.tmp 67) (.tmp 77) (.const (.bool false)), some (64, false)⟩,
      ⟨some 79, .pick (.tmp 64) (.const (.bool true)) (.tmp 78), none⟩] [1, 3, 79])
    (.cond (.tmp 79)
      (.seq (.region [
        ⟨some 2, .mov (.const (.bool false)), none⟩] [2])
      .ret)
      .skip))))
  (.region [
    ⟨some 26, .mov (.tmp 3), none⟩,
    ⟨some 27, .bin .add (.tmp 26) (.const (.int .i64 1)), none⟩,
    ⟨some 3, .mov (.tmp 27), none⟩] [1, 3])))
def c24 : CFn := ⟨83, [.tmp 2],
  (.seq (.region [
    ⟨some 1, .box (.tmp 0), none⟩,
    ⟨some 2, .mov (.const (.bool false)), none⟩] [1])
  (.seq (.seq (.region [
    ⟨some 5, .faddr (.tmp 1) 0, none⟩,
    ⟨some 6, .load (.tmp 5) 1 false .plain, none⟩,
    ⟨some 7, .call 102 [false, false, false] [.tmp 6, .const (.int .i64 0), .const (.int .i64 2000000)], none⟩,
    ⟨some 8, .un .not (.tmp 7), none⟩,
    ⟨some 9, .mov (.tmp 8), none⟩,
    ⟨some 10, .faddr (.tmp 1) 0, some (9, false)⟩,
    ⟨some 11, .load (.tmp 10) 1 false .plain, some (9, false)⟩,
    ⟨some 12, .bin .rem (.tmp 11) (.const (.int .i64 2)), some (9, false)⟩,
    ⟨some 13, .bin .neq (.tmp 12) (.const (.int .i64 0)), some (9, false)⟩,
    ⟨some 14, .pick (.tmp 9) (.const (.bool true)) (.tmp 13), none⟩,
    ⟨some 15, .mov (.tmp 14), none⟩,
    ⟨some 16, .faddr (.tmp 1) 1, some (15, false)⟩,
    ⟨some 17, .load (.tmp 16) 1 false .plain, some (15, false)⟩,
    ⟨some 18, .len false (.tmp 17), some (15, false)⟩,
    ⟨some 19, .bin .gtr (.tmp 18) (.const (.int .i64 40)), some (15, false)⟩,
    ⟨some 20, .pick (.tmp 15) (.const (.bool true)) (.tmp 19), none⟩] [1, 20])
  (.cond (.tmp 20)
    (.seq (.region [
      ⟨some 2, .mov (.const (.bool false)), none⟩] [2])
    .ret)
    .skip))
  (.seq (.seq (.region [
    ⟨some 3, .mov (.const (.int .i64 0)), none⟩] [1, 3])
  (.block 0
    (.loop [1, 3] c24b0)))
  (.seq (.region [
    ⟨some 80, .faddr (.tmp 1) 2, none⟩,
    ⟨some 81, .load (.tmp 80) 1 false .plain, none⟩,
    ⟨some 82, .call 99 [false] [.tmp 81], none⟩,
    ⟨some 2, .mov (.tmp 82), none⟩] [2])
  .ret))))⟩
-- impl.MateLandTick
def c41b0 : CCode := (.seq (.region [
    ⟨some 25, .bin .lss (.tmp 24) (.tmp 23), none⟩] [1, 2, 4, 22, 23, 24, 25])
  (.seq (.cond (.tmp 25)
    .skip
    (.exit 0))
  (.seq (.block 1
    (.seq (.region [
      ⟨some 26, .iaddr 3 (.tmp 22) (.tmp 24), none⟩,
      ⟨some 27, .load (.tmp 26) 3 true .plain, none⟩,
      ⟨some 6, .alloc [.str ⟨#[]⟩, .int .i64 0, .sl .own 7 []], none⟩,
      ⟨none, .store (.tmp 6) (.tmp 27) 3, none⟩] [1, 2, 4, 6, 22, 23, 24])
    (.loud [
      ⟨some 28, .mov (.tmp 4), none⟩,
      ⟨some 29, .faddr (.tmp 6) 0, none⟩,
      ⟨some 30, .load (.tmp 29) 1 false .plain, none⟩,
      ⟨some 31, .faddr (.tmp 6) 1, none⟩,
      ⟨some 32, .load (.tmp 31) 1 false .plain, none⟩,
      ⟨some 33, .faddr (.tmp 6) 2, none⟩,
      ⟨some 34, .load (.tmp 33) 1 false .plain, none⟩,
      ⟨some 35, .append 7 72 true (.const (.sl .own 7 [])) (.tmp 34), none⟩,
      ⟨some 36, .build [.int .i64 0, .str ⟨#[]⟩, .int .i64 0, .sl .own 7 [], .str ⟨#[]⟩, .str ⟨#[]⟩, .int .i64 0] [(0, 1, .const (.int .i64 1)), (1, 1, .tmp 30), (2, 1, .tmp 32), (3, 1, .tmp 35)], none⟩,
      ⟨some 37, .bslice 7 [.int .i64 0, .str ⟨#[]⟩, .int .i64 0, .sl .own 7 [], .str ⟨#[]⟩, .str ⟨#[]⟩, .int .i64 0] 1 [(0, .tmp 36)], none⟩,
      ⟨some 38, .append 7 96 false (.tmp 28) (.tmp 37), none⟩,
      ⟨some 4, .mov (.tmp 38), none⟩] [0, 0, 2, 0, 8, 0, 32, 96, 254, 510, 1023, 2047] [1, 2, 4, 22, 23, 24])))
  (.region [
    ⟨some 39, .bin .add (.tmp 24) (.const (.int .i64 1)), none⟩,
    ⟨some 24, .mov (.tmp 39), none⟩] [1, 2, 4, 22, 23, 24]))))
def c41 : CFn := ⟨42, [.cell 2 3 true, .tmp 3],
  (.seq (.region [
    ⟨some 1, .box (.tmp 0), none⟩,
    ⟨some 2, .alloc [.int .i64 0, .sl .own 5 [], .sl .own 3 []], none⟩,
    ⟨some 3, .mov (.const (.sl .own 7 [])), none⟩] [1, 2])
  (.seq (.seq (.region [
    ⟨some 7, .load (.tmp 1) 3 true .plain, none⟩,
    ⟨some 8, .call 23 [false] [.tmp 7], none⟩,
    ⟨some 9, .un .not (.tmp 8), none⟩] [1, 2, 9])
  (.cond (.tmp 9)
    (.seq (.region [
      ⟨some 10, .build [.int .i64 0, .sl .own 5 [], .sl .own 3 []] [], none⟩,
      ⟨none, .store (.tmp 2) (.tmp 10) 3, none⟩,
      ⟨some 3, .mov (.const (.sl .own 7 [])), none⟩] [2, 3])
    .ret)
    .skip))
  (.seq (.region [
    ⟨some 11, .load (.tmp 1) 3 true .plain, none⟩,
    ⟨some 12, .call 122 [false] [.tmp 11], none⟩,
    ⟨none, .store (.tmp 1) (.tmp 12) 3, none⟩] [1, 2])
  (.seq (.seq (.region [
    ⟨some 13, .faddr (.tmp 1) 0, none⟩,
    ⟨some 14, .load (.tmp 13) 1 false .plain, none⟩,
    ⟨some 15, .bin .eql (.tmp 14) (.const (.int .i64 2000000)), none⟩] [1, 2, 15])
  (.cond (.tmp 15)
    (.seq (.region [
      ⟨some 16, .load (.tmp 1) 3 true .plain, none⟩,
      ⟨none, .store (.tmp 2) (.tmp 16) 3, none⟩,
      ⟨some 3, .mov (.const (.sl .own 7 [])), none⟩] [2, 3])
    .ret)
    .skip))
  (.seq (.region [
    ⟨some 17, .faddr (.tmp 1) 0, none⟩,
    ⟨some 18, .load (.tmp 17) 1 false .plain, none⟩,
    ⟨some 19, .bin .add (.tmp 18) (.const (.int .i64 2)), none⟩,
    ⟨some 20, .faddr (.tmp 1) 0, none⟩,
    ⟨none, .store (.tmp 20) (.tmp 19) 1, none⟩] [1, 2])
  (.seq (.region [
    ⟨some 4, .mov (.const (.sl .own 7 [])), none⟩] [1, 2, 4])
  (.seq (.seq (.region [
    ⟨some 21, .faddr (.tmp 1) 2, none⟩,
    ⟨some 22, .load (.tmp 21) 1 false .plain, none⟩,
    ⟨some 23, .len false (.tmp 22), none⟩,
    ⟨some 24, .mov (.const (.int .i64 0)), none⟩] [1, 2, 4, 22, 23, 24])
  (.block 0
    (.loop [1, 2, 4, 22, 23, 24] c41b0)))
  (.seq (.region [
    ⟨some 40, .load (.tmp 1) 3 true .plain, none⟩,
    ⟨some 41, .mov (.tmp 4), none⟩,
    ⟨none, .store (.tmp 2) (.tmp 40) 3, none⟩,
    ⟨some 3, .mov (.tmp 41), none⟩] [2, 3])
  .ret))))))))⟩
-- spec.MateLandTick
def c44b0 : CCode := (.seq (.seq (.region [
    ⟨some 25, .mov (.tmp 6), none⟩,
    ⟨some 26, .faddr (.tmp 5) 2, none⟩,
    ⟨some 27, .load (.tmp 26) 1 false .plain, none⟩,
    ⟨some 28, .len false (.tmp 27), none⟩,
    ⟨some 29, .bin .lss (.tmp 25) (.tmp 28), none⟩] [2, 4, 5, 6, 29])
  (.cond (.tmp 29)
    .skip
    (.exit 0)))
  (.seq (.block 1
    (.seq (.region [
      ⟨some 32, .faddr (.tmp 5) 2, none⟩,
      ⟨some 33, .load (.tmp 32) 1 false .plain, none⟩,
      ⟨some 34, .mov (.tmp 6), none⟩,
      ⟨some 35, .iaddr 3 (.tmp 33) (.tmp 34), none⟩,
      ⟨some 36, .load (.tmp 35) 3 true .plain, none⟩,
      ⟨some 7, .alloc [.str ⟨#[]⟩, .int .i64 0, .sl .own 7 []], none⟩,
      ⟨none, .store (.tmp 7) (.tmp 36) 3, none⟩] [2, 4, 5, 6, 7])
    (.loud [
      ⟨some 37, .mov (.tmp 4), none⟩,
      ⟨some 38, .faddr (.tmp 7) 0, none⟩,
      ⟨some 39, .load (.tmp 38) 1 false .plain, none⟩,
      ⟨some 40, .faddr (.tmp 7) 1, none⟩,
      ⟨some 41, .load (.tmp 40) 1 false .plain, none⟩,
      ⟨some 42, .bslice 7 [.str ⟨#[]⟩, .int .i64 0, .str ⟨#[]⟩, .int .i64 0, .int .i64 0, .int .i64 0, .int .i64 0] 0 [], none⟩,
      ⟨some 43, .faddr (.tmp 7) 2, none⟩,
      ⟨some 44, .load (.tmp 43) 1 false .plain, none⟩,
      ⟨some 45, .append 7 72 true (.tmp 42) (.tmp 44), none⟩,
      ⟨some 46, .build [.int .i64 0, .str ⟨#[]⟩, .int .i64 0, .sl .own 7 [], .str ⟨#[]⟩, .str ⟨#[]⟩, .int .i64 0] [(0, 1, .const (.int .i64 1)), (1, 1, .tmp 39), (2, 1, .tmp 41), (3, 1, .tmp 45)], none⟩,
      ⟨some 47, .bslice 7 [.int .i64 0, .str ⟨#[]⟩, .int .i64 0, .sl .own 7 [], .str ⟨#[]⟩, .str ⟨#[]⟩, .int .i64 0] 1 [(0, .tmp 46)], none⟩,
      ⟨some 48, .append 7 96 false (.tmp 37) (.tmp 47), none⟩,
      ⟨some 4, .mov (.tmp 48), none⟩] [0, 0, 2, 0, 8, 0, 0, 64, 224, 510, 1022, 2047, 4095] [2, 4, 5, 6])))
  (.region [
    ⟨some 30, .mov (.tmp 6), none⟩,
    ⟨some 31, .bin .add (.tmp 30) (.const (.int .i64 1)), none⟩,
    ⟨some 6, .mov (.tmp 31), none⟩] [2, 4, 5, 6])))
def c44 : CFn := ⟨51, [.cell 2 3 true, .tmp 3],
  (.seq (.region [
    ⟨some 1, .box (.tmp 0), none⟩,
    ⟨some 2, .alloc [.int .i64 0, .sl .own 5 [], .sl .own 3 []], none⟩,
    ⟨some 3, .mov (.const (.sl .own 7 [])), none⟩] [1, 2])
  (.seq (.region [
    ⟨some 8, .bslice 7 [.int .i64 0, .str ⟨#[]⟩, .int .i64 0, .sl .own 7 [], .str ⟨#[]⟩, .str ⟨#[]⟩, .int .i64 0] 0 [], none⟩,
    ⟨some 4, .mov (.tmp 8), none⟩] [1, 2, 4])
  (.seq (.seq (.region [
    ⟨some 9, .load (.tmp 1) 3 true .plain, none⟩,
    ⟨some 10, .call 24 [false] [.tmp 9], none⟩,
    ⟨some 11, .un .not (.tmp 10), none⟩] [1, 2, 4, 11])
  (.cond (.tmp 11)
    (.seq (.region [
      ⟨some 12, .build [.int .i64 0, .sl .own 5 [], .sl .own 3 []] [], none⟩,
      ⟨some 13, .mov (.tmp 4), none⟩,
      ⟨none, .store (.tmp 2) (.tmp 12) 3, none⟩,
      ⟨some 3, .mov (.tmp 13), none⟩] [2, 3])
    .ret)
    .skip))
  (.seq (.region [
    ⟨some 14, .load (.tmp 1) 3 true .plain, none⟩,
    ⟨some 15, .call 121 [false] [.tmp 14], none⟩,
    ⟨some 5, .alloc [.int .i64 0, .sl .own 5 [], .sl .own 3 []], none⟩,
    ⟨none, .store (.tmp 5) (.tmp 15) 3, none⟩] [2, 4, 5])
  (.seq (.seq (.region [
    ⟨some 16, .faddr (.tmp 5) 0, none⟩,
    ⟨some 17, .load (.tmp 16) 1 false .plain, none⟩,
    ⟨some 18, .bin .geq (.tmp 17) (.const (.int .i64 2000000)), none⟩] [2, 4, 5, 18])
  (.cond (.tmp 18)
    (.seq (.region [
      ⟨some 19, .load (.tmp 5) 3 true .plain, none⟩,
      ⟨some 20, .mov (.tmp 4), none⟩,
      ⟨none, .store (.tmp 2) (.tmp 19) 3, none⟩,
      ⟨some 3, .mov (.tmp 20), none⟩] [2, 3])
    .ret)
    .skip))
  (.seq (.region [
    ⟨some 21, .faddr (.tmp 5) 0, none⟩,
    ⟨some 22, .load (.tmp 21) 1 false .plain, none⟩,
    ⟨some 23, .bin .add (.tmp 22) (.const (.int .i64 2)), none⟩,
    ⟨some 24, .faddr (.tmp 5) 0, none⟩,
    ⟨none, .store (.tmp 24) (.tmp 23) 1, none⟩] [2, 4, 5])
  (.seq (.seq (.region [
    ⟨some 6, .mov (.const (.int .i64 0)), none⟩] [2, 4, 5, 6])
  (.block 0
    (.loop [2, 4, 5, 6] c44b0)))
  (.seq (.region [
    ⟨some 49, .load (.tmp 5) 3 true .plain, none⟩,
    ⟨some 50, .mov (.tmp 4), none⟩,
    ⟨none, .store (.tmp 2) (.tmp 49) 3, none⟩,
    ⟨some 3, .mov (.tmp 50), none⟩] [2, 3])
  .ret))))))))⟩
-- impl.MatePut
def c70b0 : CCode := (.seq (.region [
    ⟨some 36, .bin .lss (.tmp 35) (.tmp 34), none⟩] [1, 3, 6, 8, 9, 10, 34, 35, 36])
  (.seq (.cond (.tmp 36)
    .skip
    (.exit 0))
  (.seq (.block 1
    (.seq (.region [
      ⟨some 37, .mov (.tmp 35), none⟩,
      ⟨some 11, .mov (.tmp 37), none⟩] [1, 3, 6, 8, 9, 10, 11, 34, 35])
    (.seq (.region [
      ⟨some 38, .faddr (.tmp 8) 2, none⟩,
      ⟨some 39, .load (.tmp 38) 1 false .plain, none⟩,
      ⟨some 40, .mov (.tmp 11), none⟩,
      ⟨some 41, .iaddr 3 (.tmp 39) (.tmp 40), none⟩,
      ⟨some 42, .faddr (.tmp 41) 0, none⟩,
      ⟨some 43, .load (.tmp 42) 1 false .plain, none⟩,
      ⟨some 44, .mov (.tmp 1), none⟩,
      ⟨some 45, .bin .eql (.tmp 43) (.tmp 44), none⟩] [1, 3, 6, 8, 9, 10, 11, 34, 35, 45])
    (.cond (.tmp 45)
      (.region [
        ⟨some 46, .mov (.tmp 11), none⟩,
        ⟨some 10, .mov (.tmp 46), none⟩] [1, 3, 6, 8, 9, 10, 34, 35])
      .skip))))
  (.region [
    ⟨some 47, .bin .add (.tmp 35) (.const (.int .i64 1)), none⟩,
    ⟨some 35, .mov (.tmp 47), none⟩] [1, 3, 6, 8, 9, 10, 34, 35]))))
def c70 : CFn := ⟨80, [.cell 6 3 true, .tmp 7],
  (.seq (.region [
    ⟨some 3, .box (.tmp 0), none⟩,
    ⟨some 6, .alloc [.int .i64 0, .sl .own 5 [], .sl .own 3 []], none⟩,
    ⟨some 7, .mov (.const (.int .i64 0)), none⟩] [1, 2, 3, 6])
  (.seq (.seq (.region [
    ⟨some 12, .load (.tmp 3) 3 true .plain, none⟩,
    ⟨some 13, .call 23 [false] [.tmp 12], none⟩,
    ⟨some 14, .un .not (.tmp 13), none⟩] [1, 2, 3, 6, 14])
  (.cond (.tmp 14)
    (.seq (.region [
      ⟨some 15, .build [.int .i64 0, .sl .own 5 [], .sl .own 3 []] [], none⟩,
      ⟨none, .store (.tmp 6) (.tmp 15) 3, none⟩,
      ⟨some 7, .mov (.const (.int .i64 1)), none⟩] [6, 7])
    .ret)
    .skip))
  (.seq (.seq (.region [
    ⟨some 16, .mov (.tmp 1), none⟩,
    ⟨some 17, .call 105 [false] [.tmp 16], none⟩,
    ⟨some 18, .un .not (.tmp 17), none⟩,
    ⟨some 19, .mov (.tmp 18), none⟩,
    ⟨some 20, .mov (.tmp 2), some (19, false)⟩,
    ⟨some 21, .call 6 [false] [.tmp 20], some (19, false)⟩,
    ⟨some 22, .un .not (.tmp 21), some (19, false)⟩,
    ⟨some 23, .pick (.tmp 19) (.const (.bool true)) (.tmp 22), none⟩] [1, 2, 3, 6, 23])
  (.cond (.tmp 23)
    (.seq (.region [
      ⟨some 24, .load (.tmp 3) 3 true .plain, none⟩,
      ⟨some 25, .call 122 [false] [.tmp 24], none⟩,
      ⟨none, .store (.tmp 6) (.tmp 25) 3, none⟩,
      ⟨some 7, .mov (.const (.int .i64 2)), none⟩] [6, 7])
    .ret)
    .skip))
  (.seq (.region [
    ⟨some 26, .load (.tmp 3) 3 true .plain, none⟩,
    ⟨some 27, .call 122 [false] [.tmp 26], none⟩,
    ⟨some 8, .alloc [.int .i64 0, .sl .own 5 [], .sl .own 3 []], none⟩,
    ⟨none, .store (.tmp 8) (.tmp 27) 3, none⟩] [1, 2, 3, 6, 8])
  (.seq (.region [
    ⟨some 28, .mov (.tmp 1), none⟩,
    ⟨some 29, .mov (.tmp 2), none⟩,
    ⟨some 30, .append 7 72 true (.const (.sl .own 7 [])) (.tmp 29), none⟩,
    ⟨some 31, .build [.str ⟨#[]⟩, .int .i64 0, .sl .own 7 []] [(0, 1, .tmp 28), (1, 1, .const (.int .i64 1)), (2, 1, .tmp 30)], none⟩,
    ⟨some 9, .alloc [.str ⟨#[]⟩, .int .i64 0, .sl .own 7 []], none⟩,
    ⟨none, .store (.tmp 9) (.tmp 31) 3, none⟩] [1, 3, 6, 8, 9])
  (.seq (.region [
    ⟨some 10, .mov (.const (.int .i64 (-1))), none⟩] [1, 3, 6, 8, 9, 10])
  (.seq (.seq (.region [
    ⟨some 32, .faddr (.tmp 8) 2, none⟩,
    ⟨some 33, .load (.tmp 32) 1 false .plain, none⟩,
    ⟨some 34, .len false (.tmp 33), none⟩,
    ⟨some 35, .mov (.const (.int .i64 0)), none⟩] [1, 3, 6, 8, 9, 10, 34, 35])
  (.block 0
    (.loop [1, 3, 6, 8, 9, 10, 34, 35] c70b0)))
  (.seq (.seq (.region [
    ⟨some 48, .mov (.tmp 10), none⟩,
    ⟨some 49, .bin .geq (.tmp 48) (.const (.int .i64 0)), none⟩] [3, 6, 8, 9, 10, 49])
  (.cond (.tmp 49)
    (.seq (.region [
      ⟨some 50, .faddr (.tmp 8) 2, none⟩,
      ⟨some 51, .load (.tmp 50) 1 false .plain, none⟩,
      ⟨some 52, .mov (.tmp 10), none⟩,
      ⟨some 53, .iaddr 3 (.tmp 51) (.tmp 52), none⟩,
      ⟨some 54, .faddr (.tmp 53) 1, none⟩,
      ⟨some 55, .load (.tmp 54) 1 false .plain, none⟩,
      ⟨some 56, .bin .add (.tmp 55) (.const (.int .i64 1)), none⟩,
      ⟨some 57, .faddr (.tmp 9) 1, none⟩,
      ⟨none, .store (.tmp 57) (.tmp 56) 1, none⟩] [3, 6, 8, 9, 10])
    (.region [
      ⟨some 58, .faddr (.tmp 8) 2, none⟩,
      ⟨some 59, .load (.tmp 58) 1 false .plain, none⟩,
      ⟨some 60, .mov (.tmp 10), none⟩,
      ⟨some 61, .load (.tmp 9) 3 true .plain, none⟩,
      ⟨some 62, .iaddr 3 (.tmp 59) (.tmp 60), none⟩,
      ⟨none, .store (.tmp 62) (.tmp 61) 3, none⟩] [3, 6, 8]))
    (.seq (.region [
      ⟨some 63, .faddr (.tmp 8) 2, none⟩,
      ⟨some 64, .load (.tmp 63) 1 false .plain, none⟩,
      ⟨some 65, .load (.tmp 9) 3 true .plain, none⟩,
      ⟨some 66, .bslice 3 [.str ⟨#[]⟩, .int .i64 0, .sl .own 7 []] 1 [(0, .tmp 65)], none⟩,
      ⟨some 67, .append 3 48 false (.tmp 64) (.tmp 66), none⟩,
      ⟨some 68, .faddr (.tmp 8) 2, none⟩,
      ⟨none, .store (.tmp 68) (.tmp 67) 1, none⟩] [3, 6, 8])
    (.region [
      ⟨some 69, .faddr (.tmp 8) 2, none⟩,
      ⟨some 70, .load (.tmp 69) 1 false .plain, none⟩,
      ⟨some 71, .mkifs 183 (.tmp 70), none⟩,
      ⟨some 72, .mkclo 183 (.tmp 8), none⟩,
      ⟨some 73, .sortc 183 2 0 3 (.tmp 71) (.tmp 72), none⟩] [3, 6, 8]))))
  (.seq (.seq (.region [
    ⟨some 74, .load (.tmp 8) 3 true .plain, none⟩,
    ⟨some 75, .call 23 [false] [.tmp 74], none⟩,
    ⟨some 76, .un .not (.tmp 75), none⟩] [3, 6, 8, 76])
  (.cond (.tmp 76)
    (.seq (.region [
      ⟨some 77, .load (.tmp 3) 3 true .plain, none⟩,
      ⟨some 78, .call 122 [false] [.tmp 77], none⟩,
      ⟨none, .store (.tmp 6) (.tmp 78) 3, none⟩,
      ⟨some 7, .mov (.const (.int .i64 3)), none⟩] [6, 7])
    .ret)
    .skip))
  (.seq (.region [
    ⟨some 79, .load (.tmp 8) 3 true .plain, none⟩,
    ⟨none, .store (.tmp 6) (.tmp 79) 3, none⟩,
    ⟨some 7, .mov (.const (.int .i64 0)), none⟩] [6, 7])
  .ret))))))))))⟩
-- spec.MatePut
def c72b0 : CCode := (.seq (.seq (.region [
    ⟨some 28, .mov (.tmp 9), none⟩,
    ⟨some 29, .faddr (.tmp 8) 2, none⟩,
    ⟨some 30, .load (.tmp 29) 1 false .plain, none⟩,
    ⟨some 31, .len false (.tmp 30), none⟩,
    ⟨some 32, .bin .lss (.tmp 28) (.tmp 31), none⟩,
    ⟨some 33, .mov (.tmp 32), none⟩,
    ⟨some 34, .faddr (.tmp 8) 2, some (33, true)⟩,
    ⟨some 35, .load (.tmp 34) 1 false .plain, some (33, true)⟩,
    ⟨some 36, .mov (.tmp 9), some (33, true)⟩,
    ⟨some 37, .iaddr 3 (.tmp 35) (.tmp 36), some (33, true)⟩,
    ⟨some 38, .faddr (.tmp 37) 0, some (33, true)⟩,
    ⟨some 39, .load (.tmp 38) 1 false .plain, some (33, true)⟩,
    ⟨some 40, .mov (.tmp 1), some (33, true)⟩,
    ⟨some 41, .bin .lss (.tmp 39) (.tmp 40), some (33, true)⟩,
    ⟨some 42, .pick (.tmp 33) (.tmp 41) (.const (.bool false)), none⟩] [1, 2, 3, 6, 8, 9, 42])
  (.cond (.tmp 42)
    .skip
    (.exit 0)))
  (.block 1
    (.region [
      ⟨some 43, .mov (.tmp 9), none⟩,
      ⟨some 44, .bin .add (.tmp 43) (.const (.int .i64 1)), none⟩,
      ⟨some 9, .mov (.tmp 44), none⟩] [1, 2, 3, 6, 8, 9])))
def c72 : CFn := ⟨91, [.cell 6 3 true, .tmp 7],
  (.seq (.region [
    ⟨some 3, .box (.tmp 0), none⟩,
    ⟨some 6, .alloc [.int .i64 0, .sl .own 5 [], .sl .own 3 []], none⟩,
    ⟨some 7, .mov (.const (.int .i64 0)), none⟩] [1, 2, 3, 6])
  (.seq (.seq (.region [
    ⟨some 12, .load (.tmp 3) 3 true .plain, none⟩,
    ⟨some 13, .call 24 [false] [.tmp 12], none⟩,
    ⟨some 14, .un .not (.tmp 13), none⟩] [1, 2, 3, 6, 14])
  (.cond (.tmp 14)
    (.seq (.region [
      ⟨some 15, .build [.int .i64 0, .sl .own 5 [], .sl .own 3 []] [], none⟩,
      ⟨none, .store (.tmp 6) (.tmp 15) 3, none⟩,
      ⟨some 7, .mov (.const (.int .i64 1)), none⟩] [6, 7])
    .ret)
    .skip))
  (.seq (.seq (.region [
    ⟨some 16, .mov (.tmp 1), none⟩,
    ⟨some 17, .call 101 [false] [.tmp 16], none⟩,
    ⟨some 18, .un .not (.tmp 17), none⟩,
    ⟨some 19, .mov (.tmp 18), none⟩,
    ⟨some 20, .mov (.tmp 2), some (19, false)⟩,
    ⟨some 21, .call 7 [false] [.tmp 20], some (19, false)⟩,
    ⟨some 22, .un .not (.tmp 21), some (19, false)⟩,
    ⟨some 23, .pick (.tmp 19) (.const (.bool true)) (.tmp 22), none⟩] [1, 2, 3, 6, 23])
  (.cond (.tmp 23)
    (.seq (.region [
      ⟨some 24, .load (.tmp 3) 3 true .plain, none⟩,
      ⟨some 25, .call 121 [false] [.tmp 24], none⟩,
      ⟨none, .store (.tmp 6) (.tmp 25) 3, none⟩,
      ⟨some 7, .mov (.const (.int .i64 2)), none⟩] [6, 7])
    .ret)
    .skip))
  (.seq (.region [
    ⟨some 26, .load (.tmp 3) 3 true .plain, none⟩,
    ⟨some 27, .call 121 [false] [.tmp 26], none⟩,
    ⟨some 8, .alloc [.int .i64 0, .sl .own 5 [], .sl .own 3 []], none⟩,
    ⟨none, .store (.tmp 8) (.tmp 27) 3, none⟩] [1, 2, 3, 6, 8])
  (.seq (.region [
    ⟨some 9, .mov (.const (.int .i64 0)), none⟩] [1, 2, 3, 6, 8, 9])
  (.seq (.block 0
    (.loop [1, 2, 3, 6, 8, 9] c72b0))
  (.seq (.region [
    ⟨some 45, .mov (.tmp 1), none⟩,
    ⟨some 46, .bslice 7 [.str ⟨#[]⟩, .int .i64 0, .str ⟨#[]⟩, .int .i64 0, .int .i64 0, .int .i64 0, .int .i64 0] 0 [], none⟩,
    ⟨some 47, .mov (.tmp 2), none⟩,
    ⟨some 48, .append 7 72 true (.tmp 46) (.tmp 47), none⟩,
    ⟨some 49, .build [.str ⟨#[]⟩, .int .i64 0, .sl .own 7 []] [(0, 1, .tmp 45), (1, 1, .const (.int .i64 1)), (2, 1, .tmp 48)], none⟩,
    ⟨some 10, .alloc [.str ⟨#[]⟩, .int .i64 0, .sl .own 7 []], none⟩,
    ⟨none, .store (.tmp 10) (.tmp 49) 3, none⟩] [1, 3, 6, 8, 9, 10])
  (.seq (.region [
    ⟨some 50, .faddr (.tmp 8) 2, none⟩,
    ⟨some 51, .load (.tmp 50) 1 false .plain, none⟩,
    ⟨some 52, .mov (.tmp 9), none⟩,
    ⟨some 53, .slice 3 (.tmp 51) (some (.tmp 52)) none, none⟩,
    ⟨some 11, .mov (.tmp 53), none⟩] [1, 3, 6, 8, 9, 10, 11])
  (.seq (.seq (.region [
    ⟨some 54, .mov (.tmp 11), none⟩,
    ⟨some 55, .len false (.tmp 54), none⟩,
    ⟨some 56, .bin .gtr (.tmp 55) (.const (.int .i64 0)), none⟩,
    ⟨some 57, .mov (.tmp 56), none⟩,
    ⟨some 58, .mov (.tmp 11), some (57, true)⟩,
    ⟨some 59, .iaddr 3 (.tmp 58) (.const (.int .i64 0)), some (57, true)⟩,
    ⟨some 60, .faddr (.tmp 59) 0, some (57, true)⟩,
    ⟨some 61, .load (.tmp 60) 1 false .plain, some (57, true)⟩,
    ⟨some 62, .mov (.tmp 1), some (57, true)⟩,
    ⟨some 63, .bin .eql (.tmp 61) (.tmp 62), some (57, true)⟩,
    ⟨some 64, .pick (.tmp 57) (.tmp 63) (.const (.bool false)), none⟩] [3, 6, 8, 9, 10, 11, 64])
  (.cond (.tmp 64)
    (.seq (.region [
      ⟨some 65, .mov (.tmp 11), none⟩,
      ⟨some 66, .iaddr 3 (.tmp 65) (.const (.int .i64 0)), none⟩,
      ⟨some 67, .faddr (.tmp 66) 1, none⟩,
      ⟨some 68, .load (.tmp 67) 1 false .plain, none⟩,
      ⟨some 69, .bin .add (.tmp 68) (.const (.int .i64 1)), none⟩,
      ⟨some 70, .faddr (.tmp 10) 1, none⟩,
      ⟨none, .store (.tmp 70) (.tmp 69) 1, none⟩] [3, 6, 8, 9, 10, 11])
    (.region [
      ⟨some 71, .mov (.tmp 11), none⟩,
      ⟨some 72, .slice 3 (.tmp 71) (some (.const (.int .i64 1))) none, none⟩,
      ⟨some 11, .mov (.tmp 72), none⟩] [3, 6, 8, 9, 10, 11]))
    .skip))
  (.seq (.loud [
    ⟨some 73, .bslice 3 [.str ⟨#[]⟩, .int .i64 0, .sl .own 7 []] 0 [], none⟩,
    ⟨some 74, .faddr (.tmp 8) 2, none⟩,
    ⟨some 75, .load (.tmp 74) 1 false .plain, none⟩,
    ⟨some 76, .mov (.tmp 9), none⟩,
    ⟨some 77, .slice 3 (.tmp 75) none (some (.tmp 76)), none⟩,
    ⟨some 78, .append 3 48 false (.tmp 73) (.tmp 77), none⟩,
    ⟨some 79, .load (.tmp 10) 3 true .plain, none⟩,
    ⟨some 80, .bslice 3 [.str ⟨#[]⟩, .int .i64 0, .sl .own 7 []] 1 [(0, .tmp 79)], none⟩,
    ⟨some 81, .append 3 48 false (.tmp 78) (.tmp 80), none⟩,
    ⟨some 82, .mov (.tmp 11), none⟩,
    ⟨some 83, .append 3 48 false (.tmp 81) (.tmp 82), none⟩,
    ⟨some 84, .faddr (.tmp 8) 2, none⟩,
    ⟨none, .store (.tmp 84) (.tmp 83) 1, none⟩] [0, 0, 2, 0, 14, 31, 0, 64, 255, 0, 1023, 2047, 4095] [3, 6, 8])
  (.seq (.seq (.region [
    ⟨some 85, .load (.tmp 8) 3 true .plain, none⟩,
    ⟨some 86, .call 24 [false] [.tmp 85], none⟩,
    ⟨some 87, .un .not (.tmp 86), none⟩] [3, 6, 8, 87])
  (.cond (.tmp 87)
    (.seq (.region [
      ⟨some 88, .load (.tmp 3) 3 true .plain, none⟩,
      ⟨some 89, .call 121 [false] [.tmp 88], none⟩,
      ⟨none, .store (.tmp 6) (.tmp 89) 3, none⟩,
      ⟨some 7, .mov (.const (.int .i64 3)), none⟩] [6, 7])
    .ret)
    .skip))
  (.seq (.region [
    ⟨some 90, .load (.tmp 8) 3 true .plain, none⟩,
    ⟨none, .store (.tmp 6) (.tmp 90) 3, none⟩,
    ⟨some 7, .mov (.const (.int .i64 0)), none⟩] [6, 7])
  .ret))))))))))))⟩
-- laws.wLand
def c73b0 : CCode := (.seq (.seq (.region [
    ⟨some 30, .mov (.tmp 5), none⟩,
    ⟨some 31, .faddr (.tmp 2) 1, none⟩,
    ⟨some 32, .load (.tmp 31) 1 false .plain, none⟩,
    ⟨some 33, .len false (.tmp 32), none⟩,
    ⟨some 34, .bin .lss (.tmp 30) (.tmp 33), none⟩] [2, 3, 5, 34])
  (.cond (.tmp 34)
    .skip
    (.exit 0)))
  (.seq (.block 1
    (.seq (.quiet [
      ⟨some 37, .faddr (.tmp 2) 1, none⟩,
      ⟨some 38, .load (.tmp 37) 1 false .plain, none⟩,
      ⟨some 39, .mov (.tmp 5), none⟩,
      ⟨some 40, .iaddr 5 (.tmp 38) (.tmp 39), none⟩,
      ⟨some 41, .load (.tmp 40) 5 true .plain, none⟩,
      ⟨some 42, .faddr (.tmp 3) 1, none⟩,
      ⟨some 43, .load (.tmp 42) 1 false .plain, none⟩,
      ⟨some 44, .mov (.tmp 5), none⟩,
      ⟨some 45, .iaddr 5 (.tmp 43) (.tmp 44), none⟩,
      ⟨some 46, .load (.tmp 45) 5 true .plain, none⟩,
      ⟨some 47, .eqs true [.s, .s, .s, .i, .i] (.tmp 41) (.tmp 46), none⟩] [2, 3, 5, 47])
    (.cond (.tmp 47)
      (.seq (.region [
        ⟨some 4, .mov (.const (.bool false)), none⟩] [4])
      .ret)
      .skip)))
  (.region [
    ⟨some 35, .mov (.tmp 5), none⟩,
    ⟨some 36, .bin .add (.tmp 35) (.const (.int .i64 1)), none⟩,
    ⟨some 5, .mov (.tmp 36), none⟩] [2, 3, 5])))
def c73b1 : CCode := (.seq (.seq (.region [
    ⟨some 48, .mov (.tmp 6), none⟩,
    ⟨some 49, .faddr (.tmp 2) 2, none⟩,
    ⟨some 50, .load (.tmp 49) 1 false .plain, none⟩,
    ⟨some 51, .len false (.tmp 50), none⟩,
    ⟨some 52, .bin .lss (.tmp 48) (.tmp 51), none⟩] [2, 3, 6, 52])
  (.cond (.tmp 52)
    .skip
    (.exit 2)))
  (.seq (.block 3
    (.seq (.quiet [
      ⟨some 55, .faddr (.tmp 2) 2, none⟩,
      ⟨some 56, .load (.tmp 55) 1 false .plain, none⟩,
      ⟨some 57, .mov (.tmp 6), none⟩,
      ⟨some 58, .iaddr 3 (.tmp 56) (.tmp 57), none⟩,
      ⟨some 59, .faddr (.tmp 58) 0, none⟩,
      ⟨some 60, .load (.tmp 59) 1 false .plain, none⟩,
      ⟨some 61, .faddr (.tmp 3) 2, none⟩,
      ⟨some 62, .load (.tmp 61) 1 false .plain, none⟩,
      ⟨some 63, .mov (.tmp 6), none⟩,
      ⟨some 64, .iaddr 3 (.tmp 62) (.tmp 63), none⟩,
      ⟨some 65, .faddr (.tmp 64) 0, none⟩,
      ⟨some 66, .load (.tmp 65) 1 false .plain, none⟩,
      ⟨some 67, .bin .neq (.tmp 60) (.tmp 66), none⟩,
      ⟨some 68, .mov (.tmp 67), none⟩,
      ⟨some 69, .faddr (.tmp 2) 2, some (68, false)⟩,
      ⟨some 70, .load (.tmp 69) 1 false .plain, some (68, false)⟩,
      ⟨some 71, .mov (.tmp 6), some (68, false)⟩,
      ⟨some 72, .iaddr 3 (.tmp 70) (.tmp 71), some (68, false)⟩,
      ⟨some 73, .faddr (.tmp 72) 1, some (68, false)⟩,
      ⟨some 74, .load (.tmp 73) 1 false .plain, some (68, false)⟩,
      ⟨some 75, .faddr (.tmp 3) 2, some (68, false)⟩,
      ⟨some 76, .load (.tmp 75) 1 false .plain, some (68, false)⟩,
      ⟨some 77, .mov (.tmp 6), some (68, false)⟩,
      ⟨some 78, .iaddr 3 (.tmp 76) (.tmp 77), some (68, false)⟩,
      ⟨some 79, .faddr (.tmp 78) 1, some (68, false)⟩,
      ⟨some 80, .load (.tmp 79) 1 false .plain, some (68, false)⟩,
      ⟨some 81, .bin .neq (.tmp 74) (.tmp 80), some (68, false)⟩,
      ⟨some 82, .pick (.tmp 68) (.const (.bool true)) (.tmp 81), none⟩,
      ⟨some 83, .mov (.tmp 82), none⟩,
      ⟨some 84, .faddr (.tmp 2) 2, some (83, false)⟩,
      ⟨some 85, .load (.tmp 84) 1 false .plain, some (83, false)⟩,
      ⟨some 86, .mov (.tmp 6), some (83, false)⟩,
      ⟨some 87, .iaddr 3 (.tmp 85) (.tmp 86), some (83, false)⟩,
      ⟨some 88, .faddr (.tmp 87) 2, some (83, false)⟩,
      ⟨some 89, .load (.tmp 88) 1 false .plain, some (83, false)⟩,
      ⟨some 90, .faddr (.tmp 3) 2, some (83, false)⟩,
      ⟨some 91, .load (.tmp 90) 1 false .plain, some (83, false)⟩,
      ⟨some 92, .mov (.tmp 6), some (83, false)⟩,
      ⟨some 93, .iaddr 3 (.tmp 91) (.tmp 92), some (83, false)⟩,
      ⟨some 94, .faddr (.tmp 93) 2, some (83, false)⟩,
      ⟨some 95, .load (.tmp 94) 1 false .plain, some (83, false)⟩,
      ⟨some 96, .call 118 [false, false] [.tmp 89, .tmp 95], some (83, false)⟩,
      ⟨some 97, .un .not (.tmp 96), some (83, false)⟩,
      ⟨some 98, .pick (.tmp 83) (.const (.bool true)) (.tmp 97), none⟩] [2, 3, 6, 98])
    (.cond (.tmp 98)
      (.seq (.region [
        ⟨some 4, .mov (.const (.bool false)), none⟩] [4])
      .ret)
      .skip)))
  (.region [
    ⟨some 53, .mov (.tmp 6), none⟩,
    ⟨some 54, .bin .add (.tmp 53) (.const (.int .i64 1)), none⟩,
    ⟨some 6, .mov (.tmp 54), none⟩] [2, 3, 6])))
def c73 : CFn := ⟨99, [.tmp 4],
  (.seq (.region [
    ⟨some 2, .box (.tmp 0), none⟩,
    ⟨some 3, .box (.tmp 1), none⟩,
    ⟨some 4, .mov (.const (.bool false)), none⟩] [2, 3])
  (.seq (.seq (.region [
    ⟨some 7, .faddr (.tmp 2) 0, none⟩,
    ⟨some 8, .load (.tmp 7) 1 false .plain, none⟩,
    ⟨some 9, .faddr (.tmp 3) 0, none⟩,
    ⟨some 10, .load (.tmp 9) 1 false .plain, none⟩,
    ⟨some 11, .bin .neq (.tmp 8) (.tmp 10), none⟩,
    ⟨some 12, .mov (.tmp 11), none⟩,
    ⟨some 13, .faddr (.tmp 2) 1, some (12, false)⟩,
    ⟨some 14, .load (.tmp 13) 1 false .plain, some (12, false)⟩,
    ⟨some 15, .len false (.tmp 14), some (12, false)⟩,
    ⟨some 16, .faddr (.tmp 3) 1, some (12, false)⟩,
    ⟨some 17, .load (.tmp 16) 1 false .plain, some (12, false)⟩,
    ⟨some 18, .len false (.tmp 17), some (12, false)⟩,
    ⟨some 19, .bin .neq (.tmp 15) (.tmp 18), some (12, false)⟩,
    ⟨some 20, .pick (.tmp 12) (.const (.bool true)) (.tmp 19), none⟩,
    ⟨some 21, .mov (.tmp 20), none⟩,
    ⟨some 22, .faddr (.tmp 2) 2, some (21, false)⟩,
    ⟨some 23, .load (.tmp 22) 1 false .plain, some (21, false)⟩,
    ⟨some 24, .len false (.tmp 23), some (21, false)⟩,
    ⟨some 25, .faddr (.tmp 3) 2, some (21, false)⟩,
    ⟨some 26, .load (.tmp 25) 1 false .plain, some (21, false)⟩,
    ⟨some 27, .len false (.tmp 26), some (21, false)⟩,
    ⟨some 28, .bin .neq (.tmp 24) (.tmp 27), some (21, false)⟩,
    ⟨some 29, .pick (.tmp 21) (.const (.bool true)) (.tmp 28), none⟩] [2, 3, 29])
  (.cond (.tmp 29)
    (.seq (.region [
      ⟨some 4, .mov (.const (.bool false)), none⟩] [4])
    .ret)
    .skip))
  (.seq (.seq (.region [
    ⟨some 5, .mov (.const (.int .i64 0)), none⟩] [2, 3, 5])
  (.block 0
    (.loop [2, 3, 5] c73b0)))
  (.seq (.seq (.region [
    ⟨some 6, .mov (.const (.int .i64 0)), none⟩] [2, 3, 6])
  (.block 2
    (.loop [2, 3, 6] c73b1)))
  (.seq (.region [
    ⟨some 4, .mov (.const (.bool true)), none⟩] [4])
  .ret)))))⟩
-- spec.DrawMatePut
def c74 : CFn := ⟨36, [.cell 2 3 true, .tmp 3, .tmp 4],
  (.seq (.region [
    ⟨some 2, .alloc [.int .i64 0, .sl .own 5 [], .sl .own 3 []], none⟩,
    ⟨some 3, .mov (.const (.str ⟨#[]⟩)), none⟩,
    ⟨some 4, .mov (.const (.sl .own 7 [])), none⟩] [0, 2])
  (.seq (.region [
    ⟨some 8, .mov (.tmp 0), none⟩,
    ⟨some 9, .call 91 [false] [.tmp 8], none⟩,
    ⟨some 5, .mov (.tmp 9), none⟩] [2, 5])
  (.seq (.region [
    ⟨some 10, .mov (.tmp 5), none⟩,
    ⟨some 11, .call 141 [true] [.tmp 10], none⟩,
    ⟨some 6, .alloc [.int .i64 0, .sl .own 5 [], .sl .own 3 []], none⟩,
    ⟨none, .store (.tmp 6) (.tmp 11) 3, none⟩] [2, 5, 6])
  (.seq (.region [
    ⟨some 12, .mov (.tmp 5), none⟩,
    ⟨some 13, .call 145 [true] [.tmp 12], none⟩,
    ⟨some 7, .mov (.tmp 13), none⟩] [2, 5, 6, 7])
  (.seq (.seq (.region [
    ⟨some 14, .mov (.tmp 5), none⟩,
    ⟨some 15, .call 89 [true, false] [.tmp 14, .const (.int .i64 8)], none⟩,
    ⟨some 16, .bin .eql (.tmp 15) (.const (.int .i64 0)), none⟩,
    ⟨some 17, .mov (.tmp 16), none⟩,
    ⟨some 18, .mov (.tmp 7), some (17, true)⟩,
    ⟨some 19, .len false (.tmp 18), some (17, true)⟩,
    ⟨some 20, .bin .gtr (.tmp 19) (.const (.int .i64 0)), some (17, true)⟩,
    ⟨some 21, .pick (.tmp 17) (.tmp 20) (.const (.bool false)), none⟩] [2, 5, 6, 7, 21])
  (.cond (.tmp 21)
    (.region [
      ⟨some 22, .mov (.tmp 7), none⟩,
      ⟨some 23, .mov (.tmp 5), none⟩,
      ⟨some 24, .mov (.tmp 7), none⟩,
      ⟨some 25, .iaddr 7 (.tmp 24) (.const (.int .i64 0)), none⟩,
      ⟨some 26, .load (.tmp 25) 7 true .plain, none⟩,
      ⟨some 27, .call 144 [true, false] [.tmp 23, .tmp 26], none⟩,
      ⟨some 28, .iaddr 7 (.tmp 22) (.const (.int .i64 0)), none⟩,
      ⟨none, .store (.tmp 28) (.tmp 27) 7, none⟩] [2, 5, 6, 7])
    .skip))
  (.seq (.loud [
    ⟨some 29, .load (.tmp 6) 3 true .plain, none⟩,
    ⟨some 30, .bslice 1 [.str ⟨#[]⟩] 7 [(0, .const (.str ⟨#[97]⟩)), (1, .const (.str ⟨#[98]⟩)), (2, .const (.str ⟨#[100]⟩)), (3, .const (.str ⟨#[101]⟩)), (4, .const (.str ⟨#[102]⟩)), (5, .const (.str ⟨#[]⟩)), (6, .const (.str ⟨#[120, 32, 121]⟩))], none⟩,
    ⟨some 31, .mov (.tmp 5), none⟩,
    ⟨some 32, .call 89 [true, false] [.tmp 31, .const (.int .i64 7)], none⟩,
    ⟨some 33, .iaddr 1 (.tmp 30) (.tmp 32), none⟩,
    ⟨some 34, .load (.tmp 33) 1 false .plain, none⟩,
    ⟨some 35, .mov (.tmp 7), none⟩,
    ⟨none, .store (.tmp 2) (.tmp 29) 3, none⟩,
    ⟨some 3, .mov (.tmp 34), none⟩,
    ⟨some 4, .mov (.tmp 35), none⟩] [0, 0, 0, 4, 14, 30, 0, 13, 191, 511] [2, 3, 4])
  .ret))))))⟩
-- laws.wParcels
def c75b0 : CCode := (.seq (.seq (.region [
    ⟨some 11, .mov (.tmp 5), none⟩,
    ⟨some 12, .mov (.tmp 0), none⟩,
    ⟨some 13, .len false (.tmp 12), none⟩,
    ⟨some 14, .bin .lss (.tmp 11) (.tmp 13), none⟩] [0, 1, 5, 14])
  (.cond (.tmp 14)
    .skip
    (.exit 0)))
  (.seq (.block 1
    (.seq (.quiet [
      ⟨some 17, .mov (.tmp 0), none⟩,
      ⟨some 18, .mov (.tmp 5), none⟩,
      ⟨some 19, .iaddr 7 (.tmp 17) (.tmp 18), none⟩,
      ⟨some 20, .load (.tmp 19) 7 true .plain, none⟩,
      ⟨some 21, .mov (.tmp 1), none⟩,
      ⟨some 22, .mov (.tmp 5), none⟩,
      ⟨some 23, .iaddr 7 (.tmp 21) (.tmp 22), none⟩,
      ⟨some 24, .load (.tmp 23) 7 true .plain, none⟩,
      ⟨some 25, .call 143 [false, false] [.tmp 20, .tmp 24], none⟩,
      ⟨some 26, .un .not (.tmp 25), none⟩] [0, 1, 5, 26])
    (.cond (.tmp 26)
      (.seq (.region [
        ⟨some 4, .mov (.const (.bool false)), none⟩] [4])
      .ret)
      .skip)))
  (.region [
    ⟨some 15, .mov (.tmp 5), none⟩,
    ⟨some 16, .bin .add (.tmp 15) (.const (.int .i64 1)), none⟩,
    ⟨some 5, .mov (.tmp 16), none⟩] [0, 1, 5])))
def c75 : CFn := ⟨27, [.tmp 4],
  (.seq (.region [
    ⟨some 4, .mov (.const (.bool false)), none⟩] [0, 1])
  (.seq (.seq (.region [
    ⟨some 6, .mov (.tmp 0), none⟩,
    ⟨some 7, .len false (.tmp 6), none⟩,
    ⟨some 8, .mov (.tmp 1), none⟩,
    ⟨some 9, .len false (.tmp 8), none⟩,
    ⟨some 10, .bin .neq (.tmp 7) (.tmp 9), none⟩] [0, 1, 10])
  (.cond (.tmp 10)
    (.seq (.region [
      ⟨some 4, .mov (.const (.bool false)), none⟩] [4])
    .ret)
    .skip))
  (.seq (.seq (.region [
    ⟨some 5, .mov (.const (.int .i64 0)), none⟩] [0, 1, 5])
  (.block 0
    (.loop [0, 1, 5] c75b0)))
  (.seq (.region [
    ⟨some 4, .mov (.const (.bool true)), none⟩] [4])
  .ret))))⟩
-- impl.MateLandTake
def c76b0 : CCode := (.seq (.region [
    ⟨some 64, .bin .lss (.tmp 63) (.tmp 62), none⟩] [2, 3, 4, 6, 61, 62, 63, 64])
  (.seq (.cond (.tmp 64)
    .skip
    (.exit 0))
  (.seq (.block 1
    (.seq (.region [
      ⟨some 65, .mov (.tmp 63), none⟩,
      ⟨some 66, .iaddr 5 (.tmp 61) (.tmp 63), none⟩,
      ⟨some 67, .load (.tmp 66) 5 true .plain, none⟩,
      ⟨some 8, .alloc [.str ⟨#[]⟩, .str ⟨#[]⟩, .str ⟨#[]⟩, .int .i64 0, .int .i64 0], none⟩,
      ⟨some 7, .mov (.tmp 65), none⟩,
      ⟨none, .store (.tmp 8) (.tmp 67) 5, none⟩] [2, 3, 4, 6, 7, 8, 61, 62, 63])
    (.seq (.region [
      ⟨some 68, .faddr (.tmp 8) 0, none⟩,
      ⟨some 69, .load (.tmp 68) 1 false .plain, none⟩,
      ⟨some 70, .faddr (.tmp 3) 4, none⟩,
      ⟨some 71, .load (.tmp 70) 1 false .plain, none⟩,
      ⟨some 72, .bin .eql (.tmp 69) (.tmp 71), none⟩] [2, 3, 4, 6, 7, 61, 62, 63, 72])
    (.cond (.tmp 72)
      (.region [
        ⟨some 73, .mov (.tmp 7), none⟩,
        ⟨some 6, .mov (.tmp 73), none⟩] [2, 3, 4, 6, 61, 62, 63])
      .skip))))
  (.region [
    ⟨some 74, .bin .add (.tmp 63) (.const (.int .i64 1)), none⟩,
    ⟨some 63, .mov (.tmp 74), none⟩] [2, 3, 4, 6, 61, 62, 63]))))
def c76b1 : CCode := (.seq (.region [
    ⟨some 127, .bin .lss (.tmp 126) (.tmp 125), none⟩] [2, 3, 4, 6, 9, 124, 125, 126, 127])
  (.seq (.cond (.tmp 127)
    .skip
    (.exit 2))
  (.seq (.block 3
    (.seq (.region [
      ⟨some 128, .iaddr 3 (.tmp 124) (.tmp 126), none⟩,
      ⟨some 129, .load (.tmp 128) 3 true .plain, none⟩,
      ⟨some 11, .alloc [.str ⟨#[]⟩, .int .i64 0, .sl .own 7 []], none⟩,
      ⟨none, .store (.tmp 11) (.tmp 129) 3, none⟩] [2, 3, 4, 6, 9, 11, 124, 125, 126])
    (.seq (.region [
      ⟨some 130, .faddr (.tmp 11) 0, none⟩,
      ⟨some 131, .load (.tmp 130) 1 false .plain, none⟩,
      ⟨some 132, .faddr (.tmp 3) 1, none⟩,
      ⟨some 133, .load (.tmp 132) 1 false .plain, none⟩,
      ⟨some 134, .bin .eql (.tmp 131) (.tmp 133), none⟩] [2, 3, 4, 6, 9, 11, 124, 125, 126, 134])
    (.cond (.tmp 134)
      (.seq (.region [
        ⟨some 136, .faddr (.tmp 11) 2, none⟩,
        ⟨some 137, .load (.tmp 136) 1 false .plain, none⟩,
        ⟨some 138, .faddr (.tmp 3) 5, none⟩,
        ⟨some 139, .load (.tmp 138) 1 false .plain, none⟩,
        ⟨some 140, .call 182 [false, false] [.tmp 137, .tmp 139], none⟩,
        ⟨some 135, .mov (.tmp 140), none⟩,
        ⟨some 141, .ext (.tmp 135) 0, none⟩,
        ⟨some 142, .ext (.tmp 135) 1, none⟩,
        ⟨some 12, .alloc [.str ⟨#[]⟩, .int .i64 0, .str ⟨#[]⟩, .int .i64 0, .int .i64 0, .int .i64 0, .int .i64 0], none⟩,
        ⟨none, .store (.tmp 12) (.tmp 141) 7, none⟩,
        ⟨some 13, .mov (.tmp 142), none⟩] [2, 3, 4, 6, 12, 13, 124, 125, 126])
      (.region [
        ⟨some 143, .mov (.tmp 13), none⟩,
        ⟨some 144, .mov (.tmp 143), none⟩,
        ⟨some 145, .faddr (.tmp 12) 2, some (144, true)⟩,
        ⟨some 146, .load (.tmp 145) 1 false .plain, some (144, true)⟩,
        ⟨some 147, .faddr (.tmp 3) 4, some (144, true)⟩,
        ⟨some 148, .load (.tmp 147) 1 false .plain, some (144, true)⟩,
        ⟨some 149, .bin .eql (.tmp 146) (.tmp 148), some (144, true)⟩,
        ⟨some 150, .pick (.tmp 144) (.tmp 149) (.const (.bool false)), none⟩,
        ⟨some 9, .mov (.tmp 150), none⟩] [2, 3, 4, 6, 9, 124, 125, 126]))
      .skip))))
  (.region [
    ⟨some 151, .bin .add (.tmp 126) (.const (.int .i64 1)), none⟩,
    ⟨some 126, .mov (.tmp 151), none⟩] [2, 3, 4, 6, 9, 124, 125, 126]))))
def c76b2 : CCode := (.seq (.region [
    ⟨some 231, .bin .lss (.tmp 230) (.tmp 229), none⟩] [2, 4, 15, 17, 18, 228, 229, 230, 231])
  (.seq (.cond (.tmp 231)
    .skip
    (.exit 4))
  (.seq (.block 5
    (.seq (.region [
      ⟨some 232, .iaddr 5 (.tmp 228) (.tmp 230), none⟩,
      ⟨some 233, .load (.tmp 232) 5 true .plain, none⟩,
      ⟨some 20, .alloc [.str ⟨#[]⟩, .str ⟨#[]⟩, .str ⟨#[]⟩, .int .i64 0, .int .i64 0], none⟩,
      ⟨none, .store (.tmp 20) (.tmp 233) 5, none⟩] [2, 4, 15, 17, 18, 20, 228, 229, 230])
    (.seq (.region [
      ⟨some 234, .faddr (.tmp 20) 4, none⟩,
      ⟨some 235, .load (.tmp 234) 1 false .plain, none⟩,
      ⟨some 236, .faddr (.tmp 2) 0, none⟩,
      ⟨some 237, .load (.tmp 236) 1 false .plain, none⟩,
      ⟨some 238, .bin .gtr (.tmp 235) (.tmp 237), none⟩] [2, 4, 15, 17, 18, 20, 228, 229, 230, 238])
    (.cond (.tmp 238)
      (.region [
        ⟨some 239, .mov (.tmp 18), none⟩,
        ⟨some 240, .load (.tmp 20) 5 true .plain, none⟩,
        ⟨some 241, .bslice 5 [.str ⟨#[]⟩, .str ⟨#[]⟩, .str ⟨#[]⟩, .int .i64 0, .int .i64 0] 1 [(0, .tmp 240)], none⟩,
        ⟨some 242, .append 5 64 true (.tmp 239) (.tmp 241), none⟩,
        ⟨some 18, .mov (.tmp 242), none⟩] [2, 4, 15, 17, 18, 228, 229, 230])
      .skip))))
  (.region [
    ⟨some 243, .bin .add (.tmp 230) (.const (.int .i64 1)), none⟩,
    ⟨some 230, .mov (.tmp 243), none⟩] [2, 4, 15, 17, 18, 228, 229, 230]))))
def c76 : CFn := ⟨257, [.cell 4 3 true, .tmp 5],
  (.seq (.region [
    ⟨some 2, .box (.tmp 0), none⟩,
    ⟨some 3, .box (.tmp 1), none⟩,
    ⟨some 4, .alloc [.int .i64 0, .sl .own 5 [], .sl .own 3 []], none⟩,
    ⟨some 5, .mov (.const (.sl .own 7 [])), none⟩] [2, 3, 4])
  (.seq (.seq (.region [
    ⟨some 21, .load (.tmp 2) 3 true .plain, none⟩,
    ⟨some 22, .call 23 [false] [.tmp 21], none⟩,
    ⟨some 23, .un .not (.tmp 22), none⟩] [2, 3, 4, 23])
  (.cond (.tmp 23)
    (.seq (.region [
      ⟨some 24, .build [.int .i64 0, .sl .own 5 [], .sl .own 3 []] [], none⟩,
      ⟨none, .store (.tmp 4) (.tmp 24) 3, none⟩,
      ⟨some 5, .mov (.const (.sl .own 7 [])), none⟩] [4, 5])
    .ret)
    .skip))
  (.seq (.region [
    ⟨some 25, .load (.tmp 2) 3 true .plain, none⟩,
    ⟨some 26, .call 122 [false] [.tmp 25], none⟩,
    ⟨none, .store (.tmp 2) (.tmp 26) 3, none⟩] [2, 3, 4])
  (.seq (.seq (.region [
    ⟨some 27, .faddr (.tmp 3) 0, none⟩,
    ⟨some 28, .load (.tmp 27) 1 false .plain, none⟩,
    ⟨some 29, .bin .neq (.tmp 28) (.const (.int .i64 2)), none⟩,
    ⟨some 30, .mov (.tmp 29), none⟩,
    ⟨some 31, .faddr (.tmp 3) 0, some (30, true)⟩,
    ⟨some 32, .load (.tmp 31) 1 false .plain, some (30, true)⟩,
    ⟨some 33, .bin .neq (.tmp 32) (.const (.int .i64 4)), some (30, true)⟩,
    ⟨some 34, .pick (.tmp 30) (.tmp 33) (.const (.bool false)), none⟩,
    ⟨some 35, .mov (.tmp 34), none⟩,
    ⟨some 36, .faddr (.tmp 3) 1, some (35, false)⟩,
    ⟨some 37, .load (.tmp 36) 1 false .plain, some (35, false)⟩,
    ⟨some 38, .call 105 [false] [.tmp 37], some (35, false)⟩,
    ⟨some 39, .un .not (.tmp 38), some (35, false)⟩,
    ⟨some 40, .pick (.tmp 35) (.const (.bool true)) (.tmp 39), none⟩,
    ⟨some 41, .mov (.tmp 40), none⟩,
    ⟨some 42, .faddr (.tmp 3) 4, some (41, false)⟩,
    ⟨some 43, .load (.tmp 42) 1 false .plain, some (41, false)⟩,
    ⟨some 44, .call 106 [false] [.tmp 43], some (41, false)⟩,
    ⟨some 45, .un .not (.tmp 44), some (41, false)⟩,
    ⟨some 46, .pick (.tmp 41) (.const (.bool true)) (.tmp 45), none⟩,
    ⟨some 47, .mov (.tmp 46), none⟩,
    ⟨some 48, .faddr (.tmp 3) 5, some (47, false)⟩,
    ⟨some 49, .load (.tmp 48) 1 false .plain, some (47, false)⟩,
    ⟨some 50, .call 105 [false] [.tmp 49], some (47, false)⟩,
    ⟨some 51, .un .not (.tmp 50), some (47, false)⟩,
    ⟨some 52, .pick (.tmp 47) (.const (.bool true)) (.tmp 51), none⟩,
    ⟨some 53, .mov (.tmp 52), none⟩,
    ⟨some 54, .faddr (.tmp 3) 6, some (53, false)⟩,
    ⟨some 55, .load (.tmp 54) 1 false .plain, some (53, false)⟩,
    ⟨some 56, .call 85 [false, false, false] [.tmp 55, .const (.int .i64 0), .const (.int .i64 1000000)], some (53, false)⟩,
    ⟨some 57, .un .not (.tmp 56), some (53, false)⟩,
    ⟨some 58, .pick (.tmp 53) (.const (.bool true)) (.tmp 57), none⟩] [2, 3, 4, 58])
  (.cond (.tmp 58)
    (.seq (.region [
      ⟨some 59, .load (.tmp 2) 3 true .plain, none⟩,
      ⟨none, .store (.tmp 4) (.tmp 59) 3, none⟩,
      ⟨some 5, .mov (.const (.sl .own 7 [])), none⟩] [4, 5])
    .ret)
    .skip))
  (.seq (.region [
    ⟨some 6, .mov (.const (.int .i64 (-1))), none⟩] [2, 3, 4, 6])
  (.seq (.seq (.region [
    ⟨some 60, .faddr (.tmp 2) 1, none⟩,
    ⟨some 61, .load (.tmp 60) 1 false .plain, none⟩,
    ⟨some 62, .len false (.tmp 61), none⟩,
    ⟨some 63, .mov (.const (.int .i64 0)), none⟩] [2, 3, 4, 6, 61, 62, 63])
  (.block 0
    (.loop [2, 3, 4, 6, 61, 62, 63] c76b0)))
  (.seq (.seq (.region [
    ⟨some 75, .faddr (.tmp 3) 0, none⟩,
    ⟨some 76, .load (.tmp 75) 1 false .plain, none⟩,
    ⟨some 77, .bin .eql (.tmp 76) (.const (.int .i64 4)), none⟩] [2, 3, 4, 6, 77])
  (.cond (.tmp 77)
    (.seq (.seq (.quiet [
      ⟨some 78, .mov (.tmp 6), none⟩,
      ⟨some 79, .bin .geq (.tmp 78) (.const (.int .i64 0)), none⟩,
      ⟨some 80, .mov (.tmp 79), none⟩,
      ⟨some 81, .faddr (.tmp 2) 1, some (80, true)⟩,
      ⟨some 82, .load (.tmp 81) 1 false .plain, some (80, true)⟩,
      ⟨some 83, .mov (.tmp 6), some (80, true)⟩,
      ⟨some 84, .iaddr 5 (.tmp 82) (.tmp 83), some (80, true)⟩,
      ⟨some 85, .faddr (.tmp 84) 1, some (80, true)⟩,
      ⟨some 86, .load (.tmp 85) 1 false .plain, some (80, true)⟩,
      ⟨some 87, .faddr (.tmp 3) 1, some (80, true)⟩,
      ⟨some 88, .load (.tmp 87) 1 false .plain, some (80, true)⟩,
      ⟨some 89, .bin .eql (.tmp 86) (.tmp 88), some (80, true)⟩,
      ⟨some 90, .pick (.tmp 80) (.tmp 89) (.const (.bool false)), none⟩,
      ⟨some 91, .mov (.tmp 90), none⟩,
      ⟨some 92, .faddr (.tmp 2) 1, some (91, true)⟩,
      ⟨some 93, .load (.tmp 92) 1 false .plain, some (91, true)⟩,
      ⟨some 94, .mov (.tmp 6), some (91, true)⟩,
      ⟨some 95, .iaddr 5 (.tmp 93) (.tmp 94), some (91, true)⟩,
      ⟨some 96, .faddr (.tmp 95) 3, some (91, true)⟩,
      ⟨some 97, .load (.tmp 96) 1 false .plain, some (91, true)⟩,
      ⟨some 98, .faddr (.tmp 3) 6, some (91, true)⟩,
      ⟨some 99, .load (.tmp 98) 1 false .plain, some (91, true)⟩,
      ⟨some 100, .bin .leq (.tmp 97) (.tmp 99), some (91, true)⟩,
      ⟨some 101, .pick (.tmp 91) (.tmp 100) (.const (.bool false)), none⟩] [2, 3, 4, 6, 101])
    (.cond (.tmp 101)
      (.loud [
        ⟨some 102, .faddr (.tmp 2) 1, none⟩,
        ⟨some 103, .load (.tmp 102) 1 false .plain, none⟩,
        ⟨some 104, .mov (.tmp 6), none⟩,
        ⟨some 105, .mov (.tmp 6), none⟩,
        ⟨some 106, .cut3 5 (.tmp 103) (.tmp 104) (.tmp 105), none⟩,
        ⟨some 107, .faddr (.tmp 2) 1, none⟩,
        ⟨some 108, .load (.tmp 107) 1 false .plain, none⟩,
        ⟨some 109, .mov (.tmp 6), none⟩,
        ⟨some 110, .bin .add (.tmp 109) (.const (.int .i64 1)), none⟩,
        ⟨some 111, .slice 5 (.tmp 108) (some (.tmp 110)) none, none⟩,
        ⟨some 112, .append 5 64 true (.tmp 106) (.tmp 111), none⟩,
        ⟨some 113, .faddr (.tmp 2) 1, none⟩,
        ⟨none, .store (.tmp 113) (.tmp 112) 1, none⟩] [0, 1, 0, 0, 15, 0, 32, 0, 128, 480, 1023, 2047, 4095] [2, 3, 4])
      .skip))
    (.seq (.loud [
      ⟨some 114, .load (.tmp 2) 3 true .plain, none⟩,
      ⟨some 115, .faddr (.tmp 3) 1, none⟩,
      ⟨some 116, .load (.tmp 115) 1 false .plain, none⟩,
      ⟨some 117, .faddr (.tmp 3) 4, none⟩,
      ⟨some 118, .load (.tmp 117) 1 false .plain, none⟩,
      ⟨some 119, .faddr (.tmp 3) 6, none⟩,
      ⟨some 120, .load (.tmp 119) 1 false .plain, none⟩,
      ⟨some 121, .build [.int .i64 0, .str ⟨#[]⟩, .int .i64 0, .sl .own 7 [], .str ⟨#[]⟩, .str ⟨#[]⟩, .int .i64 0] [(0, 1, .const (.int .i64 5)), (1, 1, .tmp 116), (4, 1, .tmp 118), (6, 1, .tmp 120)], none⟩,
      ⟨some 122, .bslice 7 [.int .i64 0, .str ⟨#[]⟩, .int .i64 0, .sl .own 7 [], .str ⟨#[]⟩, .str ⟨#[]⟩, .int .i64 0] 1 [(0, .tmp 121)], none⟩,
      ⟨none, .store (.tmp 4) (.tmp 114) 3, none⟩,
      ⟨some 5, .mov (.tmp 122), none⟩] [0, 0, 2, 0, 8, 0, 32, 126, 254, 1, 1023] [4, 5])
    .ret))
    .skip))
  (.seq (.region [
    ⟨some 9, .mov (.const (.bool false)), none⟩] [2, 3, 4, 6, 9])
  (.seq (.seq (.region [
    ⟨some 123, .faddr (.tmp 2) 2, none⟩,
    ⟨some 124, .load (.tmp 123) 1 false .plain, none⟩,
    ⟨some 125, .len false (.tmp 124), none⟩,
    ⟨some 126, .mov (.const (.int .i64 0)), none⟩] [2, 3, 4, 6, 9, 124, 125, 126])
  (.block 2
    (.loop [2, 3, 4, 6, 9, 124, 125, 126] c76b1)))
  (.seq (.seq (.region [
    ⟨some 152, .mov (.tmp 9), none⟩,
    ⟨some 153, .un .not (.tmp 152), none⟩] [2, 3, 4, 6, 153])
  (.cond (.tmp 153)
    (.seq (.region [
      ⟨some 154, .load (.tmp 2) 3 true .plain, none⟩,
      ⟨none, .store (.tmp 4) (.tmp 154) 3, none⟩,
      ⟨some 5, .mov (.const (.sl .own 7 [])), none⟩] [4, 5])
    .ret)
    .skip))
  (.seq (.region [
    ⟨some 155, .faddr (.tmp 3) 4, none⟩,
    ⟨some 156, .load (.tmp 155) 1 false .plain, none⟩,
    ⟨some 157, .faddr (.tmp 3) 1, none⟩,
    ⟨some 158, .load (.tmp 157) 1 false .plain, none⟩,
    ⟨some 159, .faddr (.tmp 3) 5, none⟩,
    ⟨some 160, .load (.tmp 159) 1 false .plain, none⟩,
    ⟨some 161, .faddr (.tmp 3) 6, none⟩,
    ⟨some 162, .load (.tmp 161) 1 false .plain, none⟩,
    ⟨some 163, .faddr (.tmp 2) 0, none⟩,
    ⟨some 164, .load (.tmp 163) 1 false .plain, none⟩,
    ⟨some 165, .bin .add (.tmp 164) (.const (.int .i64 32)), none⟩,
    ⟨some 166, .build [.str ⟨#[]⟩, .str ⟨#[]⟩, .str ⟨#[]⟩, .int .i64 0, .int .i64 0] [(0, 1, .tmp 156), (1, 1, .tmp 158), (2, 1, .tmp 160), (3, 1, .tmp 162), (4, 1, .tmp 165)], none⟩,
    ⟨some 14, .alloc [.str ⟨#[]⟩, .str ⟨#[]⟩, .str ⟨#[]⟩, .int .i64 0, .int .i64 0], none⟩,
    ⟨none, .store (.tmp 14) (.tmp 166) 5, none⟩] [2, 3, 4, 6, 14])
  (.seq (.region [
    ⟨some 167, .faddr (.tmp 3) 1, none⟩,
    ⟨some 168, .load (.tmp 167) 1 false .plain, none⟩,
    ⟨some 169, .faddr (.tmp 3) 4, none⟩,
    ⟨some 170, .load (.tmp 169) 1 false .plain, none⟩,
    ⟨some 171, .faddr (.tmp 3) 5, none⟩,
    ⟨some 172, .load (.tmp 171) 1 false .plain, none⟩,
    ⟨some 173, .faddr (.tmp 3) 6, none⟩,
    ⟨some 174, .load (.tmp 173) 1 false .plain, none⟩,
    ⟨some 175, .build [.int .i64 0, .str ⟨#[]⟩, .int .i64 0, .sl .own 7 [], .str ⟨#[]⟩, .str ⟨#[]⟩, .int .i64 0] [(0, 1, .const (.int .i64 3)), (1, 1, .tmp 168), (4, 1, .tmp 170), (5, 1, .tmp 172), (6, 1, .tmp 174)], none⟩,
    ⟨some 176, .bslice 7 [.int .i64 0, .str ⟨#[]⟩, .int .i64 0, .sl .own 7 [], .str ⟨#[]⟩, .str ⟨#[]⟩, .int .i64 0] 1 [(0, .tmp 175)], none⟩,
    ⟨some 15, .mov (.tmp 176), none⟩] [2, 3, 4, 6, 14, 15])
  (.seq (.seq (.region [
    ⟨some 177, .mov (.tmp 6), none⟩,
    ⟨some 178, .bin .geq (.tmp 177) (.const (.int .i64 0)), none⟩] [2, 3, 4, 6, 14, 15, 178])
  (.cond (.tmp 178)
    (.seq (.region [
      ⟨some 179, .faddr (.tmp 2) 1, none⟩,
      ⟨some 180, .load (.tmp 179) 1 false .plain, none⟩,
      ⟨some 181, .mov (.tmp 6), none⟩,
      ⟨some 182, .iaddr 5 (.tmp 180) (.tmp 181), none⟩,
      ⟨some 183, .load (.tmp 182) 5 true .plain, none⟩,
      ⟨some 16, .alloc [.str ⟨#[]⟩, .str ⟨#[]⟩, .str ⟨#[]⟩, .int .i64 0, .int .i64 0], none⟩,
      ⟨none, .store (.tmp 16) (.tmp 183) 5, none⟩] [2, 3, 4, 6, 14, 15, 16])
    (.seq (.seq (.region [
      ⟨some 184, .faddr (.tmp 16) 4, none⟩,
      ⟨some 185, .load (.tmp 184) 1 false .plain, none⟩,
      ⟨some 186, .faddr (.tmp 2) 0, none⟩,
      ⟨some 187, .load (.tmp 186) 1 false .plain, none⟩,
      ⟨some 188, .bin .gtr (.tmp 185) (.tmp 187), none⟩,
      ⟨some 189, .mov (.tmp 188), none⟩,
      ⟨some 190, .faddr (.tmp 16) 1, some (189, true)⟩,
      ⟨some 191, .load (.tmp 190) 1 false .plain, some (189, true)⟩,
      ⟨some 192, .faddr (.tmp 3) 1, some (189, true)⟩,
      ⟨some 193, .load (.tmp 192) 1 false .plain, some (189, true)⟩,
      ⟨some 194, .bin .eql (.tmp 191) (.tmp 193), some (189, true)⟩,
      ⟨some 195, .mov (.tmp 194), some (189, true)⟩,
      ⟨some 196, .faddr (.tmp 16) 2, some (195, true)⟩,
      ⟨some 197, .load (.tmp 196) 1 false .plain, some (195, true)⟩,
      ⟨some 198, .faddr (.tmp 3) 5, some (195, true)⟩,
      ⟨some 199, .load (.tmp 198) 1 false .plain, some (195, true)⟩,
      ⟨some 200, .bin .eql (.tmp 197) (.tmp 199), some (195, true)⟩,
      ⟨some 201, .pick (.tmp 195) (.tmp 200) (.const (.bool false)), some (189, true)⟩,
      ⟨some 202, .mov (.tmp 201), some (189, true)⟩,
      ⟨some 203, .faddr (.tmp 16) 3, some (202, true)⟩,
      ⟨some 204, .load (.tmp 203) 1 false .plain, some (202, true)⟩,
      ⟨some 205, .faddr (.tmp 3) 6, some (202, true)⟩,
      ⟨some 206, .load (.tmp 205) 1 false .plain, some (202, true)⟩,
      ⟨some 207, .bin .leq (.tmp 204) (.tmp 206), some (202, true)⟩,
      ⟨some 208, .pick (.tmp 202) (.tmp 207) (.const (.bool false)), some (189, true)⟩,
      ⟨some 209, .un .not (.tmp 208), some (189, true)⟩,
      ⟨some 210, .pick (.tmp 189) (.tmp 209) (.const (.bool false)), none⟩] [2, 4, 6, 14, 15, 210])
    (.cond (.tmp 210)
      (.seq (.region [
        ⟨some 211, .load (.tmp 2) 3 true .plain, none⟩,
        ⟨none, .store (.tmp 4) (.tmp 211) 3, none⟩,
        ⟨some 5, .mov (.const (.sl .own 7 [])), none⟩] [4, 5])
      .ret)
      .skip))
    (.seq (.region [
      ⟨some 212, .faddr (.tmp 2) 1, none⟩,
      ⟨some 213, .load (.tmp 212) 1 false .plain, none⟩,
      ⟨some 214, .mov (.tmp 6), none⟩,
      ⟨some 215, .load (.tmp 14) 5 true .plain, none⟩,
      ⟨some 216, .iaddr 5 (.tmp 213) (.tmp 214), none⟩,
      ⟨none, .store (.tmp 216) (.tmp 215) 5, none⟩] [2, 4, 15])
    (.seq (.region [
      ⟨some 217, .load (.tmp 2) 3 true .plain, none⟩,
      ⟨some 218, .mov (.tmp 15), none⟩,
      ⟨none, .store (.tmp 4) (.tmp 217) 3, none⟩,
      ⟨some 5, .mov (.tmp 218), none⟩] [4, 5])
    .ret))))
    .skip))
  (.seq (.loud [
    ⟨some 219, .faddr (.tmp 2) 1, none⟩,
    ⟨some 220, .load (.tmp 219) 1 false .plain, none⟩,
    ⟨some 221, .append 5 64 true (.const (.sl .own 5 [])) (.tmp 220), none⟩,
    ⟨some 222, .load (.tmp 14) 5 true .plain, none⟩,
    ⟨some 223, .bslice 5 [.str ⟨#[]⟩, .str ⟨#[]⟩, .str ⟨#[]⟩, .int .i64 0, .int .i64 0] 1 [(0, .tmp 222)], none⟩,
    ⟨some 224, .append 5 64 true (.tmp 221) (.tmp 223), none⟩,
    ⟨some 17, .alloc [.sl .own 5 []], none⟩,
    ⟨none, .store (.tmp 17) (.tmp 224) 1, none⟩] [0, 1, 3, 0, 8, 31, 0, 127] [2, 4, 15, 17])
  (.seq (.seq (.region [
    ⟨some 225, .load (.tmp 17) 1 false .plain, none⟩,
    ⟨some 226, .len false (.tmp 225), none⟩,
    ⟨some 227, .bin .gtr (.tmp 226) (.const (.int .i64 40)), none⟩] [2, 4, 15, 17, 227])
  (.cond (.tmp 227)
    (.seq (.region [
      ⟨some 18, .mov (.const (.sl .own 5 [])), none⟩] [2, 4, 15, 17, 18])
    (.seq (.seq (.region [
      ⟨some 228, .load (.tmp 17) 1 false .plain, none⟩,
      ⟨some 229, .len false (.tmp 228), none⟩,
      ⟨some 230, .mov (.const (.int .i64 0)), none⟩] [2, 4, 15, 17, 18, 228, 229, 230])
    (.block 4
      (.loop [2, 4, 15, 17, 18, 228, 229, 230] c76b2)))
    (.region [
      ⟨some 244, .mov (.tmp 18), none⟩,
      ⟨none, .store (.tmp 17) (.tmp 244) 1, none⟩] [2, 4, 15, 17])))
    .skip))
  (.seq (.seq (.region [
    ⟨some 245, .load (.tmp 17) 1 false .plain, none⟩,
    ⟨some 246, .len false (.tmp 245), none⟩,
    ⟨some 247, .bin .gtr (.tmp 246) (.const (.int .i64 40)), none⟩] [2, 4, 15, 17, 247])
  (.cond (.tmp 247)
    (.seq (.region [
      ⟨some 248, .load (.tmp 2) 3 true .plain, none⟩,
      ⟨none, .store (.tmp 4) (.tmp 248) 3, none⟩,
      ⟨some 5, .mov (.const (.sl .own 7 [])), none⟩] [4, 5])
    .ret)
    .skip))
  (.seq (.region [
    ⟨some 249, .load (.tmp 17) 1 false .plain, none⟩,
    ⟨some 250, .mkifs 184 (.tmp 249), none⟩,
    ⟨some 251, .mkclo 184 (.tmp 17), none⟩,
    ⟨some 252, .sortc 184 0 0 5 (.tmp 250) (.tmp 251), none⟩] [2, 4, 15, 17])
  (.seq (.region [
    ⟨some 253, .load (.tmp 17) 1 false .plain, none⟩,
    ⟨some 254, .faddr (.tmp 2) 1, none⟩,
    ⟨none, .store (.tmp 254) (.tmp 253) 1, none⟩] [2, 4, 15])
  (.seq (.region [
    ⟨some 255, .load (.tmp 2) 3 true .plain, none⟩,
    ⟨some 256, .mov (.tmp 15), none⟩,
    ⟨none, .store (.tmp 4) (.tmp 255) 3, none⟩,
    ⟨some 5, .mov (.tmp 256), none⟩] [4, 5])
  .ret)))))))))))))))))))⟩
-- spec.MateLandTake
def c77 : CFn := ⟨122, [.cell 4 3 true, .tmp 5],
  (.seq (.region [
    ⟨some 2, .box (.tmp 0), none⟩,
    ⟨some 3, .box (.tmp 1), none⟩,
    ⟨some 4, .alloc [.int .i64 0, .sl .own 5 [], .sl .own 3 []], none⟩,
    ⟨some 5, .mov (.const (.sl .own 7 [])), none⟩] [2, 3, 4])
  (.seq (.region [
    ⟨some 11, .bslice 7 [.int .i64 0, .str ⟨#[]⟩, .int .i64 0, .sl .own 7 [], .str ⟨#[]⟩, .str ⟨#[]⟩, .int .i64 0] 0 [], none⟩,
    ⟨some 6, .mov (.tmp 11), none⟩] [2, 3, 4, 6])
  (.seq (.seq (.region [
    ⟨some 12, .load (.tmp 2) 3 true .plain, none⟩,
    ⟨some 13, .call 24 [false] [.tmp 12], none⟩,
    ⟨some 14, .un .not (.tmp 13), none⟩] [2, 3, 4, 6, 14])
  (.cond (.tmp 14)
    (.seq (.region [
      ⟨some 15, .build [.int .i64 0, .sl .own 5 [], .sl .own 3 []] [], none⟩,
      ⟨some 16, .mov (.tmp 6), none⟩,
      ⟨none, .store (.tmp 4) (.tmp 15) 3, none⟩,
      ⟨some 5, .mov (.tmp 16), none⟩] [4, 5])
    .ret)
    .skip))
  (.seq (.region [
    ⟨some 17, .load (.tmp 2) 3 true .plain, none⟩,
    ⟨some 18, .call 121 [false] [.tmp 17], none⟩,
    ⟨some 7, .alloc [.int .i64 0, .sl .own 5 [], .sl .own 3 []], none⟩,
    ⟨none, .store (.tmp 7) (.tmp 18) 3, none⟩] [3, 4, 6, 7])
  (.seq (.seq (.region [
    ⟨some 19, .faddr (.tmp 3) 1, none⟩,
    ⟨some 20, .load (.tmp 19) 1 false .plain, none⟩,
    ⟨some 21, .call 101 [false] [.tmp 20], none⟩,
    ⟨some 22, .un .not (.tmp 21), none⟩,
    ⟨some 23, .mov (.tmp 22), none⟩,
    ⟨some 24, .faddr (.tmp 3) 4, some (23, false)⟩,
    ⟨some 25, .load (.tmp 24) 1 false .plain, some (23, false)⟩,
    ⟨some 26, .call 100 [false] [.tmp 25], some (23, false)⟩,
    ⟨some 27, .un .not (.tmp 26), some (23, false)⟩,
    ⟨some 28, .pick (.tmp 23) (.const (.bool true)) (.tmp 27), none⟩,
    ⟨some 29, .mov (.tmp 28), none⟩,
    ⟨some 30, .faddr (.tmp 3) 5, some (29, false)⟩,
    ⟨some 31, .load (.tmp 30) 1 false .plain, some (29, false)⟩,
    ⟨some 32, .call 101 [false] [.tmp 31], some (29, false)⟩,
    ⟨some 33, .un .not (.tmp 32), some (29, false)⟩,
    ⟨some 34, .pick (.tmp 29) (.const (.bool true)) (.tmp 33), none⟩,
    ⟨some 35, .mov (.tmp 34), none⟩,
    ⟨some 36, .faddr (.tmp 3) 6, some (35, false)⟩,
    ⟨some 37, .load (.tmp 36) 1 false .plain, some (35, false)⟩,
    ⟨some 38, .call 102 [false, false, false] [.tmp 37, .const (.int .i64 0), .const (.int .i64 1000000)], some (35, false)⟩,
    ⟨some 39, .un .not (.tmp 38), some (35, false)⟩,
    ⟨some 40, .pick (.tmp 35) (.const (.bool true)) (.tmp 39), none⟩] [3, 4, 6, 7, 40])
  (.cond (.tmp 40)
    (.seq (.region [
      ⟨some 41, .load (.tmp 7) 3 true .plain, none⟩,
      ⟨some 42, .mov (.tmp 6), none⟩,
      ⟨none, .store (.tmp 4) (.tmp 41) 3, none⟩,
      ⟨some 5, .mov (.tmp 42), none⟩] [4, 5])
    .ret)
    .skip))
  (.seq (.seq (.region [
    ⟨some 43, .faddr (.tmp 3) 0, none⟩,
    ⟨some 44, .load (.tmp 43) 1 false .plain, none⟩] [3, 4, 6, 7, 44])
  (.block 0
    (.seq (.region [
      ⟨some 46, .bin .eql (.tmp 44) (.const (.int .i64 2)), none⟩,
      ⟨some 45, .mov (.tmp 46), none⟩] [3, 4, 6, 7, 44, 45])
    (.cond (.tmp 45)
      (.seq (.region [
        ⟨some 48, .load (.tmp 7) 3 true .plain, none⟩,
        ⟨some 49, .load (.tmp 3) 7 true .plain, none⟩,
        ⟨some 50, .call 142 [true, false] [.tmp 48, .tmp 49], none⟩,
        ⟨some 47, .mov (.tmp 50), none⟩,
        ⟨some 51, .ext (.tmp 47) 0, none⟩,
        ⟨some 52, .ext (.tmp 47) 1, none⟩,
        ⟨some 8, .alloc [.int .i64 0, .sl .own 5 [], .sl .own 3 []], none⟩,
        ⟨none, .store (.tmp 8) (.tmp 51) 3, none⟩,
        ⟨some 9, .mov (.tmp 52), none⟩] [3, 4, 6, 7, 8, 9])
      (.seq (.region [
        ⟨some 53, .mov (.tmp 9), none⟩] [3, 4, 6, 7, 8, 53])
      (.cond (.tmp 53)
        (.seq (.loud [
          ⟨some 54, .load (.tmp 8) 3 true .plain, none⟩,
          ⟨some 55, .mov (.tmp 6), none⟩,
          ⟨some 56, .faddr (.tmp 3) 1, none⟩,
          ⟨some 57, .load (.tmp 56) 1 false .plain, none⟩,
          ⟨some 58, .faddr (.tmp 3) 4, none⟩,
          ⟨some 59, .load (.tmp 58) 1 false .plain, none⟩,
          ⟨some 60, .faddr (.tmp 3) 5, none⟩,
          ⟨some 61, .load (.tmp 60) 1 false .plain, none⟩,
          ⟨some 62, .faddr (.tmp 3) 6, none⟩,
          ⟨some 63, .load (.tmp 62) 1 false .plain, none⟩,
          ⟨some 64, .build [.int .i64 0, .str ⟨#[]⟩, .int .i64 0, .sl .own 7 [], .str ⟨#[]⟩, .str ⟨#[]⟩, .int .i64 0] [(0, 1, .const (.int .i64 3)), (1, 1, .tmp 57), (4, 1, .tmp 59), (5, 1, .tmp 61), (6, 1, .tmp 63)], none⟩,
          ⟨some 65, .bslice 7 [.int .i64 0, .str ⟨#[]⟩, .int .i64 0, .sl .own 7 [], .str ⟨#[]⟩, .str ⟨#[]⟩, .int .i64 0] 1 [(0, .tmp 64)], none⟩,
          ⟨some 66, .append 7 96 false (.tmp 55) (.tmp 65), none⟩,
          ⟨none, .store (.tmp 4) (.tmp 54) 3, none⟩,
          ⟨some 5, .mov (.tmp 66), none⟩] [0, 0, 0, 4, 0, 16, 0, 64, 0, 256, 1020, 2044, 4094, 8191, 16383] [4, 5])
        .ret)
        .skip)))
      (.seq (.region [
        ⟨some 68, .bin .eql (.tmp 44) (.const (.int .i64 4)), none⟩,
        ⟨some 67, .mov (.tmp 68), none⟩] [3, 4, 6, 7, 67])
      (.cond (.tmp 67)
        (.seq (.region [
          ⟨some 69, .load (.tmp 7) 3 true .plain, none⟩,
          ⟨some 70, .faddr (.tmp 3) 4, none⟩,
          ⟨some 71, .load (.tmp 70) 1 false .plain, none⟩,
          ⟨some 72, .call 139 [false, false] [.tmp 69, .tmp 71], none⟩,
          ⟨some 10, .mov (.tmp 72), none⟩] [3, 4, 6, 7, 10])
        (.seq (.seq (.quiet [
          ⟨some 73, .mov (.tmp 10), none⟩,
          ⟨some 74, .bin .geq (.tmp 73) (.const (.int .i64 0)), none⟩,
          ⟨some 75, .mov (.tmp 74), none⟩,
          ⟨some 76, .faddr (.tmp 7) 1, some (75, true)⟩,
          ⟨some 77, .load (.tmp 76) 1 false .plain, some (75, true)⟩,
          ⟨some 78, .mov (.tmp 10), some (75, true)⟩,
          ⟨some 79, .iaddr 5 (.tmp 77) (.tmp 78), some (75, true)⟩,
          ⟨some 80, .faddr (.tmp 79) 1, some (75, true)⟩,
          ⟨some 81, .load (.tmp 80) 1 false .plain, some (75, true)⟩,
          ⟨some 82, .faddr (.tmp 3) 1, some (75, true)⟩,
          ⟨some 83, .load (.tmp 82) 1 false .plain, some (75, true)⟩,
          ⟨some 84, .bin .eql (.tmp 81) (.tmp 83), some (75, true)⟩,
          ⟨some 85, .pick (.tmp 75) (.tmp 84) (.const (.bool false)), none⟩,
          ⟨some 86, .mov (.tmp 85), none⟩,
          ⟨some 87, .faddr (.tmp 7) 1, some (86, true)⟩,
          ⟨some 88, .load (.tmp 87) 1 false .plain, some (86, true)⟩,
          ⟨some 89, .mov (.tmp 10), some (86, true)⟩,
          ⟨some 90, .iaddr 5 (.tmp 88) (.tmp 89), some (86, true)⟩,
          ⟨some 91, .faddr (.tmp 90) 3, some (86, true)⟩,
          ⟨some 92, .load (.tmp 91) 1 false .plain, some (86, true)⟩,
          ⟨some 93, .faddr (.tmp 3) 6, some (86, true)⟩,
          ⟨some 94, .load (.tmp 93) 1 false .plain, some (86, true)⟩,
          ⟨some 95, .bin .leq (.tmp 92) (.tmp 94), some (86, true)⟩,
          ⟨some 96, .pick (.tmp 86) (.tmp 95) (.const (.bool false)), none⟩] [3, 4, 6, 7, 10, 96])
        (.cond (.tmp 96)
          (.loud [
            ⟨some 97, .bslice 5 [.str ⟨#[]⟩, .str ⟨#[]⟩, .str ⟨#[]⟩, .int .i64 0, .int .i64 0] 0 [], none⟩,
            ⟨some 98, .faddr (.tmp 7) 1, none⟩,
            ⟨some 99, .load (.tmp 98) 1 false .plain, none⟩,
            ⟨some 100, .mov (.tmp 10), none⟩,
            ⟨some 101, .slice 5 (.tmp 99) none (some (.tmp 100)), none⟩,
            ⟨some 102, .append 5 64 true (.tmp 97) (.tmp 101), none⟩,
            ⟨some 103, .faddr (.tmp 7) 1, none⟩,
            ⟨some 104, .load (.tmp 103) 1 false .plain, none⟩,
            ⟨some 105, .mov (.tmp 10), none⟩,
            ⟨some 106, .bin .add (.tmp 105) (.const (.int .i64 1)), none⟩,
            ⟨some 107, .slice 5 (.tmp 104) (some (.tmp 106)) none, none⟩,
            ⟨some 108, .append 5 64 true (.tmp 102) (.tmp 107), none⟩,
            ⟨some 109, .faddr (.tmp 7) 1, none⟩,
            ⟨none, .store (.tmp 109) (.tmp 108) 1, none⟩] [0, 0, 2, 0, 14, 31, 0, 64, 0, 256, 960, 2047, 4095, 8191] [3, 4, 6, 7])
          .skip))
        (.region [
          ⟨some 110, .mov (.tmp 6), none⟩,
          ⟨some 111, .faddr (.tmp 3) 1, none⟩,
          ⟨some 112, .load (.tmp 111) 1 false .plain, none⟩,
          ⟨some 113, .faddr (.tmp 3) 4, none⟩,
          ⟨some 114, .load (.tmp 113) 1 false .plain, none⟩,
          ⟨some 115, .faddr (.tmp 3) 6, none⟩,
          ⟨some 116, .load (.tmp 115) 1 false .plain, none⟩,
          ⟨some 117, .build [.int .i64 0, .str ⟨#[]⟩, .int .i64 0, .sl .own 7 [], .str ⟨#[]⟩, .str ⟨#[]⟩, .int .i64 0] [(0, 1, .const (.int .i64 5)), (1, 1, .tmp 112), (4, 1, .tmp 114), (6, 1, .tmp 116)], none⟩,
          ⟨some 118, .bslice 7 [.int .i64 0, .str ⟨#[]⟩, .int .i64 0, .sl .own 7 [], .str ⟨#[]⟩, .str ⟨#[]⟩, .int .i64 0] 1 [(0, .tmp 117)], none⟩,
          ⟨some 119, .append 7 96 false (.tmp 110) (.tmp 118), none⟩,
          ⟨some 6, .mov (.tmp 119), none⟩] [4, 6, 7])))
        .skip))))))
  (.seq (.region [
    ⟨some 120, .load (.tmp 7) 3 true .plain, none⟩,
    ⟨some 121, .mov (.tmp 6), none⟩,
    ⟨none, .store (.tmp 4) (.tmp 120) 3, none⟩,
    ⟨some 5, .mov (.tmp 121), none⟩] [4, 5])
  .ret)))))))⟩
-- spec.DrawMateLandTake
def c78b0 : CCode := (.seq (.seq (.region [
    ⟨some 44, .mov (.tmp 8), none⟩,
    ⟨some 45, .faddr (.tmp 5) 2, none⟩,
    ⟨some 46, .load (.tmp 45) 1 false .plain, none⟩,
    ⟨some 47, .mov (.tmp 7), none⟩,
    ⟨some 48, .iaddr 3 (.tmp 46) (.tmp 47), none⟩,
    ⟨some 49, .faddr (.tmp 48) 2, none⟩,
    ⟨some 50, .load (.tmp 49) 1 false .plain, none⟩,
    ⟨some 51, .len false (.tmp 50), none⟩,
    ⟨some 52, .bin .lss (.tmp 44) (.tmp 51), none⟩] [2, 3, 4, 5, 6, 7, 8, 52])
  (.cond (.tmp 52)
    .skip
    (.exit 2)))
  (.seq (.block 3
    (.seq (.region [
      ⟨some 55, .faddr (.tmp 5) 2, none⟩,
      ⟨some 56, .load (.tmp 55) 1 false .plain, none⟩,
      ⟨some 57, .mov (.tmp 7), none⟩,
      ⟨some 58, .iaddr 3 (.tmp 56) (.tmp 57), none⟩,
      ⟨some 59, .faddr (.tmp 58) 2, none⟩,
      ⟨some 60, .load (.tmp 59) 1 false .plain, none⟩,
      ⟨some 61, .mov (.tmp 8), none⟩,
      ⟨some 62, .iaddr 7 (.tmp 60) (.tmp 61), none⟩,
      ⟨some 63, .load (.tmp 62) 7 true .plain, none⟩,
      ⟨some 9, .alloc [.str ⟨#[]⟩, .int .i64 0, .str ⟨#[]⟩, .int .i64 0, .int .i64 0, .int .i64 0, .int .i64 0], none⟩,
      ⟨none, .store (.tmp 9) (.tmp 63) 7, none⟩] [2, 3, 4, 5, 6, 7, 8, 9])
    (.seq (.region [
      ⟨some 64, .faddr (.tmp 9) 2, none⟩,
      ⟨some 65, .load (.tmp 64) 1 false .plain, none⟩,
      ⟨some 66, .bin .neq (.tmp 65) (.const (.str ⟨#[]⟩)), none⟩,
      ⟨some 67, .mov (.tmp 66), none⟩,
      ⟨some 68, .mov (.tmp 4), some (67, true)⟩,
      ⟨some 69, .call 89 [true, false] [.tmp 68, .const (.int .i64 3)], some (67, true)⟩,
      ⟨some 70, .bin .eql (.tmp 69) (.const (.int .i64 0)), some (67, true)⟩,
      ⟨some 71, .pick (.tmp 67) (.tmp 70) (.const (.bool false)), none⟩] [2, 3, 4, 5, 6, 7, 8, 9, 71])
    (.cond (.tmp 71)
      (.seq (.region [
        ⟨some 72, .faddr (.tmp 5) 2, none⟩,
        ⟨some 73, .load (.tmp 72) 1 false .plain, none⟩,
        ⟨some 74, .mov (.tmp 7), none⟩,
        ⟨some 75, .iaddr 3 (.tmp 73) (.tmp 74), none⟩,
        ⟨some 76, .faddr (.tmp 75) 0, none⟩,
        ⟨some 77, .load (.tmp 76) 1 false .plain, none⟩,
        ⟨some 78, .faddr (.tmp 6) 1, none⟩,
        ⟨none, .store (.tmp 78) (.tmp 77) 1, none⟩] [2, 3, 4, 5, 6, 7, 8, 9])
      (.seq (.region [
        ⟨some 79, .faddr (.tmp 9) 2, none⟩,
        ⟨some 80, .load (.tmp 79) 1 false .plain, none⟩,
        ⟨some 81, .faddr (.tmp 6) 4, none⟩,
        ⟨none, .store (.tmp 81) (.tmp 80) 1, none⟩] [2, 3, 4, 5, 6, 7, 8, 9])
      (.region [
        ⟨some 82, .faddr (.tmp 9) 0, none⟩,
        ⟨some 83, .load (.tmp 82) 1 false .plain, none⟩,
        ⟨some 84, .faddr (.tmp 6) 5, none⟩,
        ⟨none, .store (.tmp 84) (.tmp 83) 1, none⟩] [2, 3, 4, 5, 6, 7, 8])))
      .skip))))
  (.region [
    ⟨some 53, .mov (.tmp 8), none⟩,
    ⟨some 54, .bin .add (.tmp 53) (.const (.int .i64 1)), none⟩,
    ⟨some 8, .mov (.tmp 54), none⟩] [2, 3, 4, 5, 6, 7, 8])))
def c78b1 : CCode := (.seq (.seq (.region [
    ⟨some 37, .mov (.tmp 7), none⟩,
    ⟨some 38, .faddr (.tmp 5) 2, none⟩,
    ⟨some 39, .load (.tmp 38) 1 false .plain, none⟩,
    ⟨some 40, .len false (.tmp 39), none⟩,
    ⟨some 41, .bin .lss (.tmp 37) (.tmp 40), none⟩] [2, 3, 4, 5, 6, 7, 41])
  (.cond (.tmp 41)
    .skip
    (.exit 0)))
  (.seq (.block 1
    (.seq (.region [
      ⟨some 8, .mov (.const (.int .i64 0)), none⟩] [2, 3, 4, 5, 6, 7, 8])
    (.block 2
      (.loop [2, 3, 4, 5, 6, 7, 8] c78b0))))
  (.region [
    ⟨some 42, .mov (.tmp 7), none⟩,
    ⟨some 43, .bin .add (.tmp 42) (.const (.int .i64 1)), none⟩,
    ⟨some 7, .mov (.tmp 43), none⟩] [2, 3, 4, 5, 6, 7])))
def c78 : CFn := ⟨137, [.cell 2 3 true, .cell 3 7 true],
  (.seq (.region [
    ⟨some 2, .alloc [.int .i64 0, .sl .own 5 [], .sl .own 3 []], none⟩,
    ⟨some 3, .alloc [.int .i64 0, .str ⟨#[]⟩, .int .i64 0, .sl .own 7 [], .str ⟨#[]⟩, .str ⟨#[]⟩, .int .i64 0], none⟩] [0, 2, 3])
  (.seq (.region [
    ⟨some 11, .mov (.tmp 0), none⟩,
    ⟨some 12, .call 91 [false] [.tmp 11], none⟩,
    ⟨some 4, .mov (.tmp 12), none⟩] [2, 3, 4])
  (.seq (.region [
    ⟨some 13, .mov (.tmp 4), none⟩,
    ⟨some 14, .call 141 [true] [.tmp 13], none⟩,
    ⟨some 5, .alloc [.int .i64 0, .sl .own 5 [], .sl .own 3 []], none⟩,
    ⟨none, .store (.tmp 5) (.tmp 14) 3, none⟩] [2, 3, 4, 5])
  (.seq (.loud [
    ⟨some 15, .bslice 1 [.int .i64 0] 8 [(0, .const (.int .i64 2)), (1, .const (.int .i64 2)), (2, .const (.int .i64 2)), (3, .const (.int .i64 4)), (4, .const (.int .i64 4)), (5, .const (.int .i64 6)), (6, .const (.int .i64 1)), (7, .const (.int .i64 3))], none⟩,
    ⟨some 16, .mov (.tmp 4), none⟩,
    ⟨some 17, .call 89 [true, false] [.tmp 16, .const (.int .i64 8)], none⟩,
    ⟨some 18, .iaddr 1 (.tmp 15) (.tmp 17), none⟩,
    ⟨some 19, .load (.tmp 18) 1 false .plain, none⟩,
    ⟨some 20, .bslice 1 [.str ⟨#[]⟩] 2 [(0, .const (.str ⟨#[97]⟩)), (1, .const (.str ⟨#[98]⟩))], none⟩,
    ⟨some 21, .mov (.tmp 4), none⟩,
    ⟨some 22, .call 89 [true, false] [.tmp 21, .const (.int .i64 2)], none⟩,
    ⟨some 23, .iaddr 1 (.tmp 20) (.tmp 22), none⟩,
    ⟨some 24, .load (.tmp 23) 1 false .plain, none⟩,
    ⟨some 25, .bslice 1 [.str ⟨#[]⟩] 3 [(0, .const (.str ⟨#[105, 112]⟩)), (1, .const (.str ⟨#[118, 111, 108]⟩)), (2, .const (.str ⟨#[118, 111, 108, 50]⟩))], none⟩,
    ⟨some 26, .mov (.tmp 4), none⟩,
    ⟨some 27, .call 89 [true, false] [.tmp 26, .const (.int .i64 3)], none⟩,
    ⟨some 28, .iaddr 1 (.tmp 25) (.tmp 27), none⟩,
    ⟨some 29, .load (.tmp 28) 1 false .plain, none⟩,
    ⟨some 30, .mov (.tmp 4), none⟩,
    ⟨some 31, .call 89 [true, false] [.tmp 30, .const (.int .i64 4)], none⟩,
    ⟨some 32, .call 140 [false] [.tmp 31], none⟩,
    ⟨some 33, .bin .add (.const (.str ⟨#[99]⟩)) (.tmp 32), none⟩,
    ⟨some 34, .mov (.tmp 4), none⟩,
    ⟨some 35, .call 89 [true, false] [.tmp 34, .const (.int .i64 60)], none⟩,
    ⟨some 36, .build [.int .i64 0, .str ⟨#[]⟩, .int .i64 0, .sl .own 7 [], .str ⟨#[]⟩, .str ⟨#[]⟩, .int .i64 0] [(0, 1, .tmp 19), (1, 1, .tmp 24), (4, 1, .tmp 29), (5, 1, .tmp 33), (6, 1, .tmp 35)], none⟩,
    ⟨some 6, .alloc [.int .i64 0, .str ⟨#[]⟩, .int .i64 0, .sl .own 7 [], .str ⟨#[]⟩, .str ⟨#[]⟩, .int .i64 0], none⟩,
    ⟨none, .store (.tmp 6) (.tmp 36) 7, none⟩] [0, 0, 2, 7, 15, 0, 0, 70, 230, 486, 0, 0, 2246, 7366, 15558, 0, 39110, 104646, 235718, 0, 760006, 2097151, 0, 8388607] [2, 3, 4, 5, 6])
  (.seq (.seq (.region [
    ⟨some 7, .mov (.const (.int .i64 0)), none⟩] [2, 3, 4, 5, 6, 7])
  (.block 0
    (.loop [2, 3, 4, 5, 6, 7] c78b1)))
  (.seq (.region [
    ⟨some 85, .load (.tmp 5) 3 true .plain, none⟩,
    ⟨some 86, .faddr (.tmp 6) 4, none⟩,
    ⟨some 87, .load (.tmp 86) 1 false .plain, none⟩,
    ⟨some 88, .call 139 [false, false] [.tmp 85, .tmp 87], none⟩,
    ⟨some 10, .mov (.tmp 88), none⟩] [2, 3, 4, 5, 6, 10])
  (.seq (.seq (.region [
    ⟨some 89, .mov (.tmp 10), none⟩,
    ⟨some 90, .bin .geq (.tmp 89) (.const (.int .i64 0)), none⟩,
    ⟨some 91, .mov (.tmp 90), none⟩,
    ⟨some 92, .mov (.tmp 4), some (91, true)⟩,
    ⟨some 93, .call 89 [true, false] [.tmp 92, .const (.int .i64 2)], some (91, true)⟩,
    ⟨some 94, .bin .eql (.tmp 93) (.const (.int .i64 0)), some (91, true)⟩,
    ⟨some 95, .pick (.tmp 91) (.tmp 94) (.const (.bool false)), none⟩] [2, 3, 4, 5, 6, 10, 95])
  (.cond (.tmp 95)
    (.seq (.loud [
      ⟨some 96, .faddr (.tmp 5) 1, none⟩,
      ⟨some 97, .load (.tmp 96) 1 false .plain, none⟩,
      ⟨some 98, .mov (.tmp 10), none⟩,
      ⟨some 99, .iaddr 5 (.tmp 97) (.tmp 98), none⟩,
      ⟨some 100, .faddr (.tmp 99) 3, none⟩,
      ⟨some 101, .load (.tmp 100) 1 false .plain, none⟩,
      ⟨some 102, .mov (.tmp 4), none⟩,
      ⟨some 103, .call 89 [true, false] [.tmp 102, .const (.int .i64 3)], none⟩,
      ⟨some 104, .bin .add (.tmp 101) (.tmp 103), none⟩,
      ⟨some 105, .bin .sub (.tmp 104) (.const (.int .i64 1)), none⟩,
      ⟨some 106, .faddr (.tmp 6) 6, none⟩,
      ⟨none, .store (.tmp 106) (.tmp 105) 1, none⟩] [0, 1, 0, 7, 15, 31, 0, 64, 255, 511, 1023, 2047] [2, 3, 4, 5, 6, 10])
    (.seq (.region [
      ⟨some 107, .mov (.tmp 4), none⟩,
      ⟨some 108, .call 89 [true, false] [.tmp 107, .const (.int .i64 3)], none⟩,
      ⟨some 109, .bin .gtr (.tmp 108) (.const (.int .i64 0)), none⟩] [2, 3, 4, 5, 6, 10, 109])
    (.cond (.tmp 109)
      (.region [
        ⟨some 110, .faddr (.tmp 5) 1, none⟩,
        ⟨some 111, .load (.tmp 110) 1 false .plain, none⟩,
        ⟨some 112, .mov (.tmp 10), none⟩,
        ⟨some 113, .iaddr 5 (.tmp 111) (.tmp 112), none⟩,
        ⟨some 114, .faddr (.tmp 113) 1, none⟩,
        ⟨some 115, .load (.tmp 114) 1 false .plain, none⟩,
        ⟨some 116, .faddr (.tmp 6) 1, none⟩,
        ⟨none, .store (.tmp 116) (.tmp 115) 1, none⟩] [2, 3, 4, 5, 6])
      .skip)))
    .skip))
  (.seq (.seq (.region [
    ⟨some 117, .mov (.tmp 4), none⟩,
    ⟨some 118, .call 89 [true, false] [.tmp 117, .const (.int .i64 20)], none⟩] [2, 3, 4, 5, 6, 118])
  (.block 4
    (.seq (.region [
      ⟨some 120, .bin .eql (.tmp 118) (.const (.int .i64 0)), none⟩,
      ⟨some 119, .mov (.tmp 120), none⟩] [2, 3, 4, 5, 6, 118, 119])
    (.cond (.tmp 119)
      (.region [
        ⟨some 121, .bslice 1 [.int .i64 0] 3 [(0, .const (.int .i64 (-1))), (1, .const (.int .i64 1000000)), (2, .const (.int .i64 1000001))], none⟩,
        ⟨some 122, .mov (.tmp 4), none⟩,
        ⟨some 123, .call 89 [true, false] [.tmp 122, .const (.int .i64 3)], none⟩,
        ⟨some 124, .iaddr 1 (.tmp 121) (.tmp 123), none⟩,
        ⟨some 125, .load (.tmp 124) 1 false .plain, none⟩,
        ⟨some 126, .faddr (.tmp 6) 6, none⟩,
        ⟨none, .store (.tmp 126) (.tmp 125) 1, none⟩] [2, 3, 5, 6])
      (.seq (.region [
        ⟨some 128, .bin .eql (.tmp 118) (.const (.int .i64 1)), none⟩,
        ⟨some 127, .mov (.tmp 128), none⟩] [2, 3, 4, 5, 6, 127])
      (.cond (.tmp 127)
        (.region [
          ⟨some 129, .bslice 1 [.str ⟨#[]⟩] 3 [(0, .const (.str ⟨#[]⟩)), (1, .const (.str ⟨#[120, 32, 121]⟩)), (2, .const (.str ⟨#[42]⟩))], none⟩,
          ⟨some 130, .mov (.tmp 4), none⟩,
          ⟨some 131, .call 89 [true, false] [.tmp 130, .const (.int .i64 3)], none⟩,
          ⟨some 132, .iaddr 1 (.tmp 129) (.tmp 131), none⟩,
          ⟨some 133, .load (.tmp 132) 1 false .plain, none⟩,
          ⟨some 134, .faddr (.tmp 6) 4, none⟩,
          ⟨none, .store (.tmp 134) (.tmp 133) 1, none⟩] [2, 3, 5, 6])
        .skip))))))
  (.seq (.loud [
    ⟨some 135, .load (.tmp 5) 3 true .plain, none⟩,
    ⟨some 136, .load (.tmp 6) 7 true .plain, none⟩,
    ⟨none, .store (.tmp 2) (.tmp 135) 3, none⟩,
    ⟨none, .store (.tmp 3) (.tmp 136) 7, none⟩] [0, 0, 1, 7] [2, 3])
  .ret)))))))))⟩
-- spec.l1WantOk
def c81 : CFn := ⟨41, [.tmp 2],
  (.seq (.region [
    ⟨some 1, .box (.tmp 0), none⟩,
    ⟨some 2, .mov (.const (.bool false)), none⟩] [1])
  (.seq (.region [
    ⟨some 3, .faddr (.tmp 1) 0, none⟩,
    ⟨some 4, .load (.tmp 3) 1 false .plain, none⟩,
    ⟨some 5, .call 101 [false] [.tmp 4], none⟩,
    ⟨some 6, .mov (.tmp 5), none⟩,
    ⟨some 7, .faddr (.tmp 1) 1, some (6, true)⟩,
    ⟨some 8, .load (.tmp 7) 1 false .plain, some (6, true)⟩,
    ⟨some 9, .call 102 [false, false, false] [.tmp 8, .const (.int .i64 1), .const (.int .i64 1000000)], some (6, true)⟩,
    ⟨some 10, .pick (.tmp 6) (.tmp 9) (.const (.bool false)), none⟩,
    ⟨some 11, .mov (.tmp 10), none⟩,
    ⟨some 12, .faddr (.tmp 1) 2, some (11, true)⟩,
    ⟨some 13, .load (.tmp 12) 1 false .plain, some (11, true)⟩,
    ⟨some 14, .bin .eql (.tmp 13) (.const (.str ⟨#[]⟩)), some (11, true)⟩,
    ⟨some 15, .mov (.tmp 14), some (11, true)⟩,
    ⟨some 16, .faddr (.tmp 1) 2, some (15, false)⟩,
    ⟨some 17, .load (.tmp 16) 1 false .plain, some (15, false)⟩,
    ⟨some 18, .call 100 [false] [.tmp 17], some (15, false)⟩,
    ⟨some 19, .pick (.tmp 15) (.const (.bool true)) (.tmp 18), some (11, true)⟩,
    ⟨some 20, .pick (.tmp 11) (.tmp 19) (.const (.bool false)), none⟩,
    ⟨some 21, .mov (.tmp 20), none⟩,
    ⟨some 22, .faddr (.tmp 1) 3, some (21, true)⟩,
    ⟨some 23, .load (.tmp 22) 1 false .plain, some (21, true)⟩,
    ⟨some 24, .call 102 [false, false, false] [.tmp 23, .const (.int .i64 0), .const (.int .i64 100)], some (21, true)⟩,
    ⟨some 25, .pick (.tmp 21) (.tmp 24) (.const (.bool false)), none⟩,
    ⟨some 26, .mov (.tmp 25), none⟩,
    ⟨some 27, .faddr (.tmp 1) 4, some (26, true)⟩,
    ⟨some 28, .load (.tmp 27) 1 false .plain, some (26, true)⟩,
    ⟨some 29, .call 102 [false, false, false] [.tmp 28, .const (.int .i64 0), .const (.int .i64 100)], some (26, true)⟩,
    ⟨some 30, .pick (.tmp 26) (.tmp 29) (.const (.bool false)), none⟩,
    ⟨some 31, .mov (.tmp 30), none⟩,
    ⟨some 32, .faddr (.tmp 1) 5, some (31, true)⟩,
    ⟨some 33, .load (.tmp 32) 1 false .plain, some (31, true)⟩,
    ⟨some 34, .call 102 [false, false, false] [.tmp 33, .const (.int .i64 0), .const (.int .i64 100)], some (31, true)⟩,
    ⟨some 35, .pick (.tmp 31) (.tmp 34) (.const (.bool false)), none⟩,
    ⟨some 36, .mov (.tmp 35), none⟩,
    ⟨some 37, .faddr (.tmp 1) 6, some (36, true)⟩,
    ⟨some 38, .load (.tmp 37) 1 false .plain, some (36, true)⟩,
    ⟨some 39, .call 102 [false, false, false] [.tmp 38, .const (.int .i64 0), .const (.int .i64 100)], some (36, true)⟩,
    ⟨some 40, .pick (.tmp 36) (.tmp 39) (.const (.bool false)), none⟩,
    ⟨some 2, .mov (.tmp 40), none⟩] [2])
  .ret))⟩
-- impl.wantOk
def c82 : CFn := ⟨41, [.tmp 2],
  (.seq (.region [
    ⟨some 1, .box (.tmp 0), none⟩,
    ⟨some 2, .mov (.const (.bool false)), none⟩] [1])
  (.seq (.region [
    ⟨some 3, .faddr (.tmp 1) 0, none⟩,
    ⟨some 4, .load (.tmp 3) 1 false .plain, none⟩,
    ⟨some 5, .call 105 [false] [.tmp 4], none⟩,
    ⟨some 6, .mov (.tmp 5), none⟩,
    ⟨some 7, .faddr (.tmp 1) 1, some (6, true)⟩,
    ⟨some 8, .load (.tmp 7) 1 false .plain, some (6, true)⟩,
    ⟨some 9, .call 85 [false, false, false] [.tmp 8, .const (.int .i64 1), .const (.int .i64 1000000)], some (6, true)⟩,
    ⟨some 10, .pick (.tmp 6) (.tmp 9) (.const (.bool false)), none⟩,
    ⟨some 11, .mov (.tmp 10), none⟩,
    ⟨some 12, .faddr (.tmp 1) 2, some (11, true)⟩,
    ⟨some 13, .load (.tmp 12) 1 false .plain, some (11, true)⟩,
    ⟨some 14, .bin .eql (.tmp 13) (.const (.str ⟨#[]⟩)), some (11, true)⟩,
    ⟨some 15, .mov (.tmp 14), some (11, true)⟩,
    ⟨some 16, .faddr (.tmp 1) 2, some (15, false)⟩,
    ⟨some 17, .load (.tmp 16) 1 false .plain, some (15, false)⟩,
    ⟨some 18, .call 106 [false] [.tmp 17], some (15, false)⟩,
    ⟨some 19, .pick (.tmp 15) (.const (.bool true)) (.tmp 18), some (11, true)⟩,
    ⟨some 20, .pick (.tmp 11) (.tmp 19) (.const (.bool false)), none⟩,
    ⟨some 21, .mov (.tmp 20), none⟩,
    ⟨some 22, .faddr (.tmp 1) 3, some (21, true)⟩,
    ⟨some 23, .load (.tmp 22) 1 false .plain, some (21, true)⟩,
    ⟨some 24, .call 85 [false, false, false] [.tmp 23, .const (.int .i64 0), .const (.int .i64 100)], some (21, true)⟩,
    ⟨some 25, .pick (.tmp 21) (.tmp 24) (.const (.bool false)), none⟩,
    ⟨some 26, .mov (.tmp 25), none⟩,
    ⟨some 27, .faddr (.tmp 1) 4, some (26, true)⟩,
    ⟨some 28, .load (.tmp 27) 1 false .plain, some (26, true)⟩,
    ⟨some 29, .call 85 [false, false, false] [.tmp 28, .const (.int .i64 0), .const (.int .i64 100)], some (26, true)⟩,
    ⟨some 30, .pick (.tmp 26) (.tmp 29) (.const (.bool false)), none⟩,
    ⟨some 31, .mov (.tmp 30), none⟩,
    ⟨some 32, .faddr (.tmp 1) 5, some (31, true)⟩,
    ⟨some 33, .load (.tmp 32) 1 false .plain, some (31, true)⟩,
    ⟨some 34, .call 85 [false, false, false] [.tmp 33, .const (.int .i64 0), .const (.int .i64 100)], some (31, true)⟩,
    ⟨some 35, .pick (.tmp 31) (.tmp 34) (.const (.bool false)), none⟩,
    ⟨some 36, .mov (.tmp 35), none⟩,
    ⟨some 37, .faddr (.tmp 1) 6, some (36, true)⟩,
    ⟨some 38, .load (.tmp 37) 1 false .plain, some (36, true)⟩,
    ⟨some 39, .call 85 [false, false, false] [.tmp 38, .const (.int .i64 0), .const (.int .i64 100)], some (36, true)⟩,
    ⟨some 40, .pick (.tmp 36) (.tmp 39) (.const (.bool false)), none⟩,
    ⟨some 2, .mov (.tmp 40), none⟩] [2])
  .ret))⟩
-- impl.in
def c85 : CFn := ⟨15, [.tmp 6],
  (.seq (.region [
    ⟨some 6, .mov (.const (.bool false)), none⟩] [0, 1, 2])
  (.seq (.region [
    ⟨some 7, .mov (.tmp 0), none⟩,
    ⟨some 8, .mov (.tmp 1), none⟩,
    ⟨some 9, .bin .geq (.tmp 7) (.tmp 8), none⟩,
    ⟨some 10, .mov (.tmp 9), none⟩,
    ⟨some 11, .mov (.tmp 0), some (10, true)⟩,
    ⟨some 12, .mov (.tmp 2), some (10, true)⟩,
    ⟨some 13, .bin .leq (.tmp 11) (.tmp 12), some (10, true)⟩,
    ⟨some 14, .pick (.tmp 10) (.tmp 13) (.const (.bool false)), none⟩,
    ⟨some 6, .mov (.tmp 14), none⟩] [6])
  .ret))⟩
-- spec.l1DrawWant
def c87 : CFn := ⟨26, [.cell 4 7 true],
  (.seq (.region [
    ⟨some 4, .alloc [.str ⟨#[]⟩, .int .i64 0, .str ⟨#[]⟩, .int .i64 0, .int .i64 0, .int .i64 0, .int .i64 0], none⟩] [0, 1, 4])
  (.seq (.loud [
    ⟨some 5, .mov (.tmp 1), none⟩,
    ⟨some 6, .mov (.tmp 0), none⟩,
    ⟨some 7, .call 89 [true, false] [.tmp 6, .const (.int .i64 3)], none⟩,
    ⟨some 8, .bin .add (.const (.int .i64 1)) (.tmp 7), none⟩,
    ⟨some 9, .bslice 1 [.str ⟨#[]⟩] 4 [(0, .const (.str ⟨#[]⟩)), (1, .const (.str ⟨#[118, 111, 108]⟩)), (2, .const (.str ⟨#[105, 112]⟩)), (3, .const (.str ⟨#[118, 111, 108, 50]⟩))], none⟩,
    ⟨some 10, .mov (.tmp 0), none⟩,
    ⟨some 11, .call 89 [true, false] [.tmp 10, .const (.int .i64 4)], none⟩,
    ⟨some 12, .iaddr 1 (.tmp 9) (.tmp 11), none⟩,
    ⟨some 13, .load (.tmp 12) 1 false .plain, none⟩,
    ⟨some 14, .mov (.tmp 0), none⟩,
    ⟨some 15, .call 89 [true, false] [.tmp 14, .const (.int .i64 4)], none⟩,
    ⟨some 16, .mov (.tmp 0), none⟩,
    ⟨some 17, .call 89 [true, false] [.tmp 16, .const (.int .i64 3)], none⟩,
    ⟨some 18, .bslice 1 [.int .i64 0] 6 [(0, .const (.int .i64 0)), (1, .const (.int .i64 0)), (2, .const (.int .i64 0)), (3, .const (.int .i64 1)), (4, .const (.int .i64 3)), (5, .const (.int .i64 8))], none⟩,
    ⟨some 19, .mov (.tmp 0), none⟩,
    ⟨some 20, .call 89 [true, false] [.tmp 19, .const (.int .i64 6)], none⟩,
    ⟨some 21, .iaddr 1 (.tmp 18) (.tmp 20), none⟩,
    ⟨some 22, .load (.tmp 21) 1 false .plain, none⟩,
    ⟨some 23, .mov (.tmp 0), none⟩,
    ⟨some 24, .call 89 [true, false] [.tmp 23, .const (.int .i64 4)], none⟩,
    ⟨some 25, .build [.str ⟨#[]⟩, .int .i64 0, .str ⟨#[]⟩, .int .i64 0, .int .i64 0, .int .i64 0, .int .i64 0] [(0, 1, .tmp 5), (1, 1, .tmp 8), (2, 1, .tmp 13), (3, 1, .tmp 15), (4, 1, .tmp 17), (5, 1, .tmp 22), (6, 1, .tmp 24)], none⟩,
    ⟨none, .store (.tmp 4) (.tmp 25) 7, none⟩] [0, 0, 2, 6, 0, 0, 38, 118, 246, 0, 614, 0, 3686, 0, 0, 24166, 65126, 130662, 0, 319078, 1048575, 2097151] [4])
  .ret))⟩
-- (*spec.l1Rd).pick
def c89 : CFn := ⟨99, [.tmp 4],
  (.seq (.region [
    ⟨some 4, .mov (.const (.int .i64 0)), none⟩] [0, 1])
  (.seq (.region [
    ⟨some 7, .mov (.tmp 0), none⟩,
    ⟨some 8, .mov (.tmp 0), none⟩,
    ⟨some 9, .nilck (.tmp 8), none⟩,
    ⟨some 10, .faddr (.tmp 9) 1, none⟩,
    ⟨some 11, .load (.tmp 10) 1 false .plain, none⟩,
    ⟨some 12, .bin .add (.tmp 11) (.const (.int .i64 1)), none⟩,
    ⟨some 13, .nilck (.tmp 7), none⟩,
    ⟨some 14, .faddr (.tmp 13) 1, none⟩,
    ⟨none, .store (.tmp 14) (.tmp 12) 1, none⟩] [0, 1])
  (.seq (.seq (.region [
    ⟨some 15, .mov (.tmp 1), none⟩,
    ⟨some 16, .bin .lss (.tmp 15) (.const (.int .i64 1)), none⟩,
    ⟨some 17, .mov (.tmp 16), none⟩,
    ⟨some 18, .mov (.tmp 0), some (17, false)⟩,
    ⟨some 19, .nilck (.tmp 18), some (17, false)⟩,
    ⟨some 20, .faddr (.tmp 19) 0, some (17, false)⟩,
    ⟨some 21, .load (.tmp 20) 1 false .plain, some (17, false)⟩,
    ⟨some 22, .len false (.tmp 21), some (17, false)⟩,
    ⟨some 23, .bin .eql (.tmp 22) (.const (.int .i64 0)), some (17, false)⟩,
    ⟨some 24, .pick (.tmp 17) (.const (.bool true)) (.tmp 23), none⟩] [0, 1, 24])
  (.cond (.tmp 24)
    (.seq (.region [
      ⟨some 4, .mov (.const (.int .i64 0)), none⟩] [4])
    .ret)
    .skip))
  (.seq (.region [
    ⟨some 25, .mov (.tmp 0), none⟩,
    ⟨some 26, .nilck (.tmp 25), none⟩,
    ⟨some 27, .faddr (.tmp 26) 1, none⟩,
    ⟨some 28, .load (.tmp 27) 1 false .plain, none⟩,
    ⟨some 29, .bin .sub (.tmp 28) (.const (.int .i64 1)), none⟩,
    ⟨some 5, .mov (.tmp 29), none⟩] [0, 1, 5])
  (.seq (.seq (.region [
    ⟨some 30, .mov (.tmp 5), none⟩,
    ⟨some 31, .mov (.tmp 0), none⟩,
    ⟨some 32, .nilck (.tmp 31), none⟩,
    ⟨some 33, .faddr (.tmp 32) 0, none⟩,
    ⟨some 34, .load (.tmp 33) 1 false .plain, none⟩,
    ⟨some 35, .len false (.tmp 34), none⟩,
    ⟨some 36, .bin .lss (.tmp 30) (.tmp 35), none⟩] [0, 1, 5, 36])
  (.cond (.tmp 36)
    (.seq (.region [
      ⟨some 37, .mov (.tmp 0), none⟩,
      ⟨some 38, .nilck (.tmp 37), none⟩,
      ⟨some 39, .faddr (.tmp 38) 0, none⟩,
      ⟨some 40, .load (.tmp 39) 1 false .plain, none⟩,
      ⟨some 41, .mov (.tmp 5), none⟩,
      ⟨some 42, .iaddr 1 (.tmp 40) (.tmp 41), none⟩,
      ⟨some 43, .load (.tmp 42) 1 false .plain, none⟩,
      ⟨some 44, .conv .i64 (.tmp 43), none⟩,
      ⟨some 45, .mov (.tmp 1), none⟩,
      ⟨some 46, .bin .rem (.tmp 44) (.tmp 45), none⟩,
      ⟨some 4, .mov (.tmp 46), none⟩] [4])
    .ret)
    .skip))
  (.seq (.quiet [
    ⟨some 47, .mov (.tmp 0), none⟩,
    ⟨some 48, .nilck (.tmp 47), none⟩,
    ⟨some 49, .faddr (.tmp 48) 0, none⟩,
    ⟨some 50, .load (.tmp 49) 1 false .plain, none⟩,
    ⟨some 51, .mov (.tmp 5), none⟩,
    ⟨some 52, .mov (.tmp 0), none⟩,
    ⟨some 53, .nilck (.tmp 52), none⟩,
    ⟨some 54, .faddr (.tmp 53) 0, none⟩,
    ⟨some 55, .load (.tmp 54) 1 false .plain, none⟩,
    ⟨some 56, .len false (.tmp 55), none⟩,
    ⟨some 57, .bin .rem (.tmp 51) (.tmp 56), none⟩,
    ⟨some 58, .iaddr 1 (.tmp 50) (.tmp 57), none⟩,
    ⟨some 59, .load (.tmp 58) 1 false .plain, none⟩,
    ⟨some 60, .conv .i64 (.tmp 59), none⟩,
    ⟨some 61, .bin .mul (.tmp 60) (.const (.int .i64 131)), none⟩,
    ⟨some 62, .mov (.tmp 0), none⟩,
    ⟨some 63, .nilck (.tmp 62), none⟩,
    ⟨some 64, .faddr (.tmp 63) 0, none⟩,
    ⟨some 65, .load (.tmp 64) 1 false .plain, none⟩,
    ⟨some 66, .mov (.tmp 5), none⟩,
    ⟨some 67, .bin .mul (.tmp 66) (.const (.int .i64 7)), none⟩,
    ⟨some 68, .bin .add (.tmp 67) (.const (.int .i64 3)), none⟩,
    ⟨some 69, .mov (.tmp 0), none⟩,
    ⟨some 70, .nilck (.tmp 69), none⟩,
    ⟨some 71, .faddr (.tmp 70) 0, none⟩,
    ⟨some 72, .load (.tmp 71) 1 false .plain, none⟩,
    ⟨some 73, .len false (.tmp 72), none⟩,
    ⟨some 74, .bin .rem (.tmp 68) (.tmp 73), none⟩,
    ⟨some 75, .iaddr 1 (.tmp 65) (.tmp 74), none⟩,
    ⟨some 76, .load (.tmp 75) 1 false .plain, none⟩,
    ⟨some 77, .conv .i64 (.tmp 76), none⟩,
    ⟨some 78, .bin .mul (.tmp 77) (.const (.int .i64 1117)), none⟩,
    ⟨some 79, .bin .add (.tmp 61) (.tmp 78), none⟩,
    ⟨some 80, .mov (.tmp 5), none⟩,
    ⟨some 81, .bin .mul (.tmp 80) (.const (.int .i64 29)), none⟩,
    ⟨some 82, .bin .add (.tmp 79) (.tmp 81), none⟩,
    ⟨some 83, .mov (.tmp 5), none⟩,
    ⟨some 84, .mov (.tmp 0), none⟩,
    ⟨some 85, .nilck (.tmp 84), none⟩,
    ⟨some 86, .faddr (.tmp 85) 0, none⟩,
    ⟨some 87, .load (.tmp 86) 1 false .plain, none⟩,
    ⟨some 88, .len false (.tmp 87), none⟩,
    ⟨some 89, .bin .quo (.tmp 83) (.tmp 88), none⟩,
    ⟨some 90, .bin .mul (.tmp 89) (.const (.int .i64 53)), none⟩,
    ⟨some 91, .bin .add (.tmp 82) (.tmp 90), none⟩,
    ⟨some 6, .mov (.tmp 91), none⟩] [1, 6])
  (.seq (.region [
    ⟨some 92, .mov (.tmp 6), none⟩,
    ⟨some 93, .mov (.tmp 6), none⟩,
    ⟨some 94, .bin .quo (.tmp 93) (.const (.int .i64 64)), none⟩,
    ⟨some 95, .bin .xor (.tmp 92) (.tmp 94), none⟩,
    ⟨some 6, .mov (.tmp 95), none⟩] [1, 6])
  (.seq (.region [
    ⟨some 96, .mov (.tmp 6), none⟩,
    ⟨some 97, .mov (.tmp 1), none⟩,
    ⟨some 98, .bin .rem (.tmp 96) (.tmp 97), none⟩,
    ⟨some 4, .mov (.tmp 98), none⟩] [4])
  .ret))))))))⟩
-- spec.l1Open
def c91 : CFn := ⟨11, [.tmp 2],
  (.seq (.region [
    ⟨some 2, .mov (.const (.any)), none⟩] [0])
  (.seq (.seq (.region [
    ⟨some 3, .mov (.tmp 0), none⟩,
    ⟨some 4, .len false (.tmp 3), none⟩,
    ⟨some 5, .bin .gtr (.tmp 4) (.const (.int .i64 2000)), none⟩] [0, 5])
  (.cond (.tmp 5)
    (.region [
      ⟨some 6, .mov (.tmp 0), none⟩,
      ⟨some 7, .slice 1 (.tmp 6) none (some (.const (.int .i64 2000))), none⟩,
      ⟨some 0, .mov (.tmp 7), none⟩] [0])
    .skip))
  (.seq (.region [
    ⟨some 8, .mov (.tmp 0), none⟩,
    ⟨some 9, .build [.sl .own 1 [], .int .i64 0] [(0, 1, .tmp 8)], none⟩,
    ⟨some 10, .box (.tmp 9), none⟩,
    ⟨some 2, .mov (.tmp 10), none⟩] [2])
  .ret)))⟩
-- spec.l6PlacesOk
def c99b0 : CCode := (.seq (.seq (.region [
    ⟨some 64, .mov (.tmp 7), none⟩,
    ⟨some 65, .mov (.tmp 0), none⟩,
    ⟨some 66, .mov (.tmp 5), none⟩,
    ⟨some 67, .iaddr 3 (.tmp 65) (.tmp 66), none⟩,
    ⟨some 68, .faddr (.tmp 67) 2, none⟩,
    ⟨some 69, .load (.tmp 68) 1 false .plain, none⟩,
    ⟨some 70, .len false (.tmp 69), none⟩,
    ⟨some 71, .bin .lss (.tmp 64) (.tmp 70), none⟩] [0, 3, 4, 5, 6, 7, 71])
  (.cond (.tmp 71)
    .skip
    (.exit 6)))
  (.seq (.block 7
    (.seq (.quiet [
      ⟨some 74, .faddr (.tmp 4) 2, none⟩,
      ⟨some 75, .load (.tmp 74) 1 false .plain, none⟩,
      ⟨some 76, .mov (.tmp 6), none⟩,
      ⟨some 77, .iaddr 7 (.tmp 75) (.tmp 76), none⟩,
      ⟨some 78, .faddr (.tmp 77) 2, none⟩,
      ⟨some 79, .load (.tmp 78) 1 false .plain, none⟩,
      ⟨some 80, .bin .neq (.tmp 79) (.const (.str ⟨#[]⟩)), none⟩,
      ⟨some 81, .mov (.tmp 80), none⟩,
      ⟨some 82, .faddr (.tmp 4) 2, some (81, true)⟩,
      ⟨some 83, .load (.tmp 82) 1 false .plain, some (81, true)⟩,
      ⟨some 84, .mov (.tmp 6), some (81, true)⟩,
      ⟨some 85, .iaddr 7 (.tmp 83) (.tmp 84), some (81, true)⟩,
      ⟨some 86, .faddr (.tmp 85) 2, some (81, true)⟩,
      ⟨some 87, .load (.tmp 86) 1 false .plain, some (81, true)⟩,
      ⟨some 88, .mov (.tmp 0), some (81, true)⟩,
      ⟨some 89, .mov (.tmp 5), some (81, true)⟩,
      ⟨some 90, .iaddr 3 (.tmp 88) (.tmp 89), some (81, true)⟩,
      ⟨some 91, .faddr (.tmp 90) 2, some (81, true)⟩,
      ⟨some 92, .load (.tmp 91) 1 false .plain, some (81, true)⟩,
      ⟨some 93, .mov (.tmp 7), some (81, true)⟩,
      ⟨some 94, .iaddr 7 (.tmp 92) (.tmp 93), some (81, true)⟩,
      ⟨some 95, .faddr (.tmp 94) 2, some (81, true)⟩,
      ⟨some 96, .load (.tmp 95) 1 false .plain, some (81, true)⟩,
      ⟨some 97, .bin .eql (.tmp 87) (.tmp 96), some (81, true)⟩,
      ⟨some 98, .pick (.tmp 81) (.tmp 97) (.const (.bool false)), none⟩] [0, 3, 4, 5, 6, 7, 98])
    (.cond (.tmp 98)
      (.seq (.region [
        ⟨some 2, .mov (.const (.bool false)), none⟩] [2])
      .ret)
      .skip)))
  (.region [
    ⟨some 72, .mov (.tmp 7), none⟩,
    ⟨some 73, .bin .add (.tmp 72) (.const (.int .i64 1)), none⟩,
    ⟨some 7, .mov (.tmp 73), none⟩] [0, 3, 4, 5, 6, 7])))
def c99b1 : CCode := (.seq (.seq (.region [
    ⟨some 57, .mov (.tmp 6), none⟩,
    ⟨some 58, .faddr (.tmp 4) 2, none⟩,
    ⟨some 59, .load (.tmp 58) 1 false .plain, none⟩,
    ⟨some 60, .len false (.tmp 59), none⟩,
    ⟨some 61, .bin .lss (.tmp 57) (.tmp 60), none⟩] [0, 3, 4, 5, 6, 61])
  (.cond (.tmp 61)
    .skip
    (.exit 4)))
  (.seq (.block 5
    (.seq (.region [
      ⟨some 7, .mov (.const (.int .i64 0)), none⟩] [0, 3, 4, 5, 6, 7])
    (.block 6
      (.loop [0, 3, 4, 5, 6, 7] c99b0))))
  (.region [
    ⟨some 62, .mov (.tmp 6), none⟩,
    ⟨some 63, .bin .add (.tmp 62) (.const (.int .i64 1)), none⟩,
    ⟨some 6, .mov (.tmp 63), none⟩] [0, 3, 4, 5, 6])))
def c99b2 : CCode := (.seq (.seq (.region [
    ⟨some 52, .mov (.tmp 5), none⟩,
    ⟨some 53, .mov (.tmp 3), none⟩,
    ⟨some 54, .bin .lss (.tmp 52) (.tmp 53), none⟩] [0, 3, 4, 5, 54])
  (.cond (.tmp 54)
    .skip
    (.exit 2)))
  (.seq (.block 3
    (.seq (.region [
      ⟨some 6, .mov (.const (.int .i64 0)), none⟩] [0, 3, 4, 5, 6])
    (.block 4
      (.loop [0, 3, 4, 5, 6] c99b1))))
  (.region [
    ⟨some 55, .mov (.tmp 5), none⟩,
    ⟨some 56, .bin .add (.tmp 55) (.const (.int .i64 1)), none⟩,
    ⟨some 5, .mov (.tmp 56), none⟩] [0, 3, 4, 5])))
def c99b3 : CCode := (.seq (.seq (.region [
    ⟨some 11, .mov (.tmp 3), none⟩,
    ⟨some 12, .mov (.tmp 0), none⟩,
    ⟨some 13, .len false (.tmp 12), none⟩,
    ⟨some 14, .bin .lss (.tmp 11) (.tmp 13), none⟩] [0, 3, 14])
  (.cond (.tmp 14)
    .skip
    (.exit 0)))
  (.seq (.block 1
    (.seq (.region [
      ⟨some 17, .mov (.tmp 0), none⟩,
      ⟨some 18, .mov (.tmp 3), none⟩,
      ⟨some 19, .iaddr 3 (.tmp 17) (.tmp 18), none⟩,
      ⟨some 20, .load (.tmp 19) 3 true .plain, none⟩,
      ⟨some 4, .alloc [.str ⟨#[]⟩, .int .i64 0, .sl .own 7 []], none⟩,
      ⟨none, .store (.tmp 4) (.tmp 20) 3, none⟩] [0, 3, 4])
    (.seq (.seq (.quiet [
      ⟨some 21, .faddr (.tmp 4) 0, none⟩,
      ⟨some 22, .load (.tmp 21) 1 false .plain, none⟩,
      ⟨some 23, .call 101 [false] [.tmp 22], none⟩,
      ⟨some 24, .un .not (.tmp 23), none⟩,
      ⟨some 25, .mov (.tmp 24), none⟩,
      ⟨some 26, .faddr (.tmp 4) 1, some (25, false)⟩,
      ⟨some 27, .load (.tmp 26) 1 false .plain, some (25, false)⟩,
      ⟨some 28, .call 102 [false, false, false] [.tmp 27, .const (.int .i64 1), .const (.int .i64 1000000)], some (25, false)⟩,
      ⟨some 29, .un .not (.tmp 28), some (25, false)⟩,
      ⟨some 30, .pick (.tmp 25) (.const (.bool true)) (.tmp 29), none⟩,
      ⟨some 31, .mov (.tmp 30), none⟩,
      ⟨some 32, .faddr (.tmp 4) 2, some (31, false)⟩,
      ⟨some 33, .load (.tmp 32) 1 false .plain, some (31, false)⟩,
      ⟨some 34, .call 7 [false] [.tmp 33], some (31, false)⟩,
      ⟨some 35, .un .not (.tmp 34), some (31, false)⟩,
      ⟨some 36, .pick (.tmp 31) (.const (.bool true)) (.tmp 35), none⟩,
      ⟨some 37, .mov (.tmp 36), none⟩,
      ⟨some 38, .mov (.tmp 3), some (37, false)⟩,
      ⟨some 39, .bin .gtr (.tmp 38) (.const (.int .i64 0)), some (37, false)⟩,
      ⟨some 40, .mov (.tmp 39), some (37, false)⟩,
      ⟨some 41, .mov (.tmp 0), some (40, true)⟩,
      ⟨some 42, .mov (.tmp 3), some (40, true)⟩,
      ⟨some 43, .bin .sub (.tmp 42) (.const (.int .i64 1)), some (40, true)⟩,
      ⟨some 44, .iaddr 3 (.tmp 41) (.tmp 43), some (40, true)⟩,
      ⟨some 45, .faddr (.tmp 44) 0, some (40, true)⟩,
      ⟨some 46, .load (.tmp 45) 1 false .plain, some (40, true)⟩,
      ⟨some 47, .faddr (.tmp 4) 0, some (40, true)⟩,
      ⟨some 48, .load (.tmp 47) 1 false .plain, some (40, true)⟩,
      ⟨some 49, .bin .geq (.tmp 46) (.tmp 48), some (40, true)⟩,
      ⟨some 50, .pick (.tmp 40) (.tmp 49) (.const (.bool false)), some (37, false)⟩,
      ⟨some 51, .pick (.tmp 37) (.const (.bool true)) (.tmp 50), none⟩] [0, 3, 4, 51])
    (.cond (.tmp 51)
      (.seq (.region [
        ⟨some 2, .mov (.const (.bool false)), none⟩] [2])
      .ret)
      .skip))
    (.seq (.region [
      ⟨some 5, .mov (.const (.int .i64 0)), none⟩] [0, 3, 4, 5])
    (.block 2
      (.loop [0, 3, 4, 5] c99b2))))))
  (.region [
    ⟨some 15, .mov (.tmp 3), none⟩,
    ⟨some 16, .bin .add (.tmp 15) (.const (.int .i64 1)), none⟩,
    ⟨some 3, .mov (.tmp 16), none⟩] [0, 3])))
def c99 : CFn := ⟨99, [.tmp 2],
  (.seq (.region [
    ⟨some 2, .mov (.const (.bool false)), none⟩] [0])
  (.seq (.seq (.region [
    ⟨some 8, .mov (.tmp 0), none⟩,
    ⟨some 9, .len false (.tmp 8), none⟩,
    ⟨some 10, .bin .gtr (.tmp 9) (.const (.int .i64 4)), none⟩] [0, 10])
  (.cond (.tmp 10)
    (.seq (.region [
      ⟨some 2, .mov (.const (.bool false)), none⟩] [2])
    .ret)
    .skip))
  (.seq (.seq (.region [
    ⟨some 3, .mov (.const (.int .i64 0)), none⟩] [0, 3])
  (.block 0
    (.loop [0, 3] c99b3)))
  (.seq (.region [
    ⟨some 2, .mov (.const (.bool true)), none⟩] [2])
  .ret))))⟩
-- spec.l1HoldOk
def c100 : CFn := ⟨9, [.tmp 2],
  (.seq (.region [
    ⟨some 2, .mov (.const (.bool false)), none⟩] [0])
  (.seq (.region [
    ⟨some 3, .mov (.tmp 0), none⟩,
    ⟨some 4, .call 101 [false] [.tmp 3], none⟩,
    ⟨some 5, .mov (.tmp 4), none⟩,
    ⟨some 6, .mov (.tmp 0), some (5, true)⟩,
    ⟨some 7, .bin .neq (.tmp 6) (.const (.str ⟨#[42]⟩)), some (5, true)⟩,
    ⟨some 8, .pick (.tmp 5) (.tmp 7) (.const (.bool false)), none⟩,
    ⟨some 2, .mov (.tmp 8), none⟩] [2])
  .ret))⟩
-- spec.l1NameOk
def c101b0 : CCode := (.seq (.seq (.region [
    ⟨some 8, .mov (.tmp 3), none⟩,
    ⟨some 9, .mov (.tmp 0), none⟩,
    ⟨some 10, .len true (.tmp 9), none⟩,
    ⟨some 11, .bin .lss (.tmp 8) (.tmp 10), none⟩] [0, 3, 11])
  (.cond (.tmp 11)
    .skip
    (.exit 0)))
  (.seq (.block 1
    (.seq (.region [
      ⟨some 14, .mov (.tmp 0), none⟩,
      ⟨some 15, .mov (.tmp 3), none⟩,
      ⟨some 16, .sidx (.tmp 14) (.tmp 15), none⟩,
      ⟨some 17, .bin .lss (.tmp 16) (.const (.int .u8 33)), none⟩,
      ⟨some 18, .mov (.tmp 17), none⟩,
      ⟨some 19, .mov (.tmp 0), some (18, false)⟩,
      ⟨some 20, .mov (.tmp 3), some (18, false)⟩,
      ⟨some 21, .sidx (.tmp 19) (.tmp 20), some (18, false)⟩,
      ⟨some 22, .bin .gtr (.tmp 21) (.const (.int .u8 126)), some (18, false)⟩,
      ⟨some 23, .pick (.tmp 18) (.const (.bool true)) (.tmp 22), none⟩] [0, 3, 23])
    (.cond (.tmp 23)
      (.seq (.region [
        ⟨some 2, .mov (.const (.bool false)), none⟩] [2])
      .ret)
      .skip)))
  (.region [
    ⟨some 12, .mov (.tmp 3), none⟩,
    ⟨some 13, .bin .add (.tmp 12) (.const (.int .i64 1)), none⟩,
    ⟨some 3, .mov (.tmp 13), none⟩] [0, 3])))
def c101 : CFn := ⟨24, [.tmp 2],
  (.seq (.region [
    ⟨some 2, .mov (.const (.bool false)), none⟩] [0])
  (.seq (.seq (.region [
    ⟨some 4, .mov (.tmp 0), none⟩,
    ⟨some 5, .len true (.tmp 4), none⟩,
    ⟨some 6, .call 102 [false, false, false] [.tmp 5, .const (.int .i64 1), .const (.int .i64 20)], none⟩,
    ⟨some 7, .un .not (.tmp 6), none⟩] [0, 7])
  (.cond (.tmp 7)
    (.seq (.region [
      ⟨some 2, .mov (.const (.bool false)), none⟩] [2])
    .ret)
    .skip))
  (.seq (.seq (.region [
    ⟨some 3, .mov (.const (.int .i64 0)), none⟩] [0, 3])
  (.block 0
    (.loop [0, 3] c101b0)))
  (.seq (.region [
    ⟨some 2, .mov (.const (.bool true)), none⟩] [2])
  .ret))))⟩
-- spec.l1In
def c102 : CFn := ⟨15, [.tmp 6],
  (.seq (.region [
    ⟨some 6, .mov (.const (.bool false)), none⟩] [0, 1, 2])
  (.seq (.region [
    ⟨some 7, .mov (.tmp 0), none⟩,
    ⟨some 8, .mov (.tmp 1), none⟩,
    ⟨some 9, .bin .geq (.tmp 7) (.tmp 8), none⟩,
    ⟨some 10, .mov (.tmp 9), none⟩,
    ⟨some 11, .mov (.tmp 0), some (10, true)⟩,
    ⟨some 12, .mov (.tmp 2), some (10, true)⟩,
    ⟨some 13, .bin .leq (.tmp 11) (.tmp 12), some (10, true)⟩,
    ⟨some 14, .pick (.tmp 10) (.tmp 13) (.const (.bool false)), none⟩,
    ⟨some 6, .mov (.tmp 14), none⟩] [6])
  .ret))⟩
-- impl.isName
def c105b0 : CCode := (.seq (.region [
    ⟨some 15, .bin .lss (.tmp 14) (.tmp 13), none⟩] [0, 13, 14, 15])
  (.seq (.cond (.tmp 15)
    .skip
    (.exit 0))
  (.seq (.block 1
    (.seq (.region [
      ⟨some 16, .mov (.tmp 14), none⟩,
      ⟨some 3, .mov (.tmp 16), none⟩] [0, 3, 13, 14])
    (.seq (.region [
      ⟨some 17, .mov (.tmp 0), none⟩,
      ⟨some 18, .mov (.tmp 3), none⟩,
      ⟨some 19, .sidx (.tmp 17) (.tmp 18), none⟩,
      ⟨some 20, .bin .lss (.tmp 19) (.const (.int .u8 33)), none⟩,
      ⟨some 21, .mov (.tmp 20), none⟩,
      ⟨some 22, .mov (.tmp 0), some (21, false)⟩,
      ⟨some 23, .mov (.tmp 3), some (21, false)⟩,
      ⟨some 24, .sidx (.tmp 22) (.tmp 23), some (21, false)⟩,
      ⟨some 25, .bin .gtr (.tmp 24) (.const (.int .u8 126)), some (21, false)⟩,
      ⟨some 26, .pick (.tmp 21) (.const (.bool true)) (.tmp 25), none⟩] [0, 13, 14, 26])
    (.cond (.tmp 26)
      (.seq (.region [
        ⟨some 2, .mov (.const (.bool false)), none⟩] [2])
      .ret)
      .skip))))
  (.region [
    ⟨some 27, .bin .add (.tmp 14) (.const (.int .i64 1)), none⟩,
    ⟨some 14, .mov (.tmp 27), none⟩] [0, 13, 14]))))
def c105 : CFn := ⟨28, [.tmp 2],
  (.seq (.region [
    ⟨some 2, .mov (.const (.bool false)), none⟩] [0])
  (.seq (.seq (.region [
    ⟨some 4, .mov (.tmp 0), none⟩,
    ⟨some 5, .len true (.tmp 4), none⟩,
    ⟨some 6, .bin .lss (.tmp 5) (.const (.int .i64 1)), none⟩,
    ⟨some 7, .mov (.tmp 6), none⟩,
    ⟨some 8, .mov (.tmp 0), some (7, false)⟩,
    ⟨some 9, .len true (.tmp 8), some (7, false)⟩,
    ⟨some 10, .bin .gtr (.tmp 9) (.const (.int .i64 20)), some (7, false)⟩,
    ⟨some 11, .pick (.tmp 7) (.const (.bool true)) (.tmp 10), none⟩] [0, 11])
  (.cond (.tmp 11)
    (.seq (.region [
      ⟨some 2, .mov (.const (.bool false)), none⟩] [2])
    .ret)
    .skip))
  (.seq (.seq (.region [
    ⟨some 12, .mov (.tmp 0), none⟩,
    ⟨some 13, .len true (.tmp 12), none⟩,
    ⟨some 14, .mov (.const (.int .i64 0)), none⟩] [0, 13, 14])
  (.block 0
    (.loop [0, 13, 14] c105b0)))
  (.seq (.region [
    ⟨some 2, .mov (.const (.bool true)), none⟩] [2])
  .ret))))⟩
-- impl.isHold
def c106 : CFn := ⟨9, [.tmp 2],
  (.seq (.region [
    ⟨some 2, .mov (.const (.bool false)), none⟩] [0])
  (.seq (.region [
    ⟨some 3, .mov (.tmp 0), none⟩,
    ⟨some 4, .call 105 [false] [.tmp 3], none⟩,
    ⟨some 5, .mov (.tmp 4), none⟩,
    ⟨some 6, .mov (.tmp 0), some (5, true)⟩,
    ⟨some 7, .bin .neq (.tmp 6) (.const (.str ⟨#[42]⟩)), some (5, true)⟩,
    ⟨some 8, .pick (.tmp 5) (.tmp 7) (.const (.bool false)), none⟩,
    ⟨some 2, .mov (.tmp 8), none⟩] [2])
  .ret))⟩
-- laws.wWants
def c118b0 : CCode := (.seq (.seq (.region [
    ⟨some 11, .mov (.tmp 5), none⟩,
    ⟨some 12, .mov (.tmp 0), none⟩,
    ⟨some 13, .len false (.tmp 12), none⟩,
    ⟨some 14, .bin .lss (.tmp 11) (.tmp 13), none⟩] [0, 1, 5, 14])
  (.cond (.tmp 14)
    .skip
    (.exit 0)))
  (.seq (.block 1
    (.seq (.quiet [
      ⟨some 17, .mov (.tmp 0), none⟩,
      ⟨some 18, .mov (.tmp 5), none⟩,
      ⟨some 19, .iaddr 7 (.tmp 17) (.tmp 18), none⟩,
      ⟨some 20, .load (.tmp 19) 7 true .plain, none⟩,
      ⟨some 21, .mov (.tmp 1), none⟩,
      ⟨some 22, .mov (.tmp 5), none⟩,
      ⟨some 23, .iaddr 7 (.tmp 21) (.tmp 22), none⟩,
      ⟨some 24, .load (.tmp 23) 7 true .plain, none⟩,
      ⟨some 25, .eqs true [.s, .i, .s, .i, .i, .i, .i] (.tmp 20) (.tmp 24), none⟩] [0, 1, 5, 25])
    (.cond (.tmp 25)
      (.seq (.region [
        ⟨some 4, .mov (.const (.bool false)), none⟩] [4])
      .ret)
      .skip)))
  (.region [
    ⟨some 15, .mov (.tmp 5), none⟩,
    ⟨some 16, .bin .add (.tmp 15) (.const (.int .i64 1)), none⟩,
    ⟨some 5, .mov (.tmp 16), none⟩] [0, 1, 5])))
def c118 : CFn := ⟨26, [.tmp 4],
  (.seq (.region [
    ⟨some 4, .mov (.const (.bool false)), none⟩] [0, 1])
  (.seq (.seq (.region [
    ⟨some 6, .mov (.tmp 0), none⟩,
    ⟨some 7, .len false (.tmp 6), none⟩,
    ⟨some 8, .mov (.tmp 1), none⟩,
    ⟨some 9, .len false (.tmp 8), none⟩,
    ⟨some 10, .bin .neq (.tmp 7) (.tmp 9), none⟩] [0, 1, 10])
  (.cond (.tmp 10)
    (.seq (.region [
      ⟨some 4, .mov (.const (.bool false)), none⟩] [4])
    .ret)
    .skip))
  (.seq (.seq (.region [
    ⟨some 5, .mov (.const (.int .i64 0)), none⟩] [0, 1, 5])
  (.block 0
    (.loop [0, 1, 5] c118b0)))
  (.seq (.region [
    ⟨some 4, .mov (.const (.bool true)), none⟩] [4])
  .ret))))⟩
-- spec.l6Copy
def c121b0 : CCode := (.seq (.seq (.region [
    ⟨some 13, .mov (.tmp 4), none⟩,
    ⟨some 14, .faddr (.tmp 1) 2, none⟩,
    ⟨some 15, .load (.tmp 14) 1 false .plain, none⟩,
    ⟨some 16, .len false (.tmp 15), none⟩,
    ⟨some 17, .bin .lss (.tmp 13) (.tmp 16), none⟩] [1, 2, 3, 4, 17])
  (.cond (.tmp 17)
    .skip
    (.exit 0)))
  (.seq (.block 1
    (.seq (.region [
      ⟨some 20, .faddr (.tmp 1) 2, none⟩,
      ⟨some 21, .load (.tmp 20) 1 false .plain, none⟩,
      ⟨some 22, .mov (.tmp 4), none⟩,
      ⟨some 23, .iaddr 3 (.tmp 21) (.tmp 22), none⟩,
      ⟨some 24, .load (.tmp 23) 3 true .plain, none⟩,
      ⟨some 5, .alloc [.str ⟨#[]⟩, .int .i64 0, .sl .own 7 []], none⟩,
      ⟨none, .store (.tmp 5) (.tmp 24) 3, none⟩] [1, 2, 3, 4, 5])
    (.seq (.region [
      ⟨some 25, .bslice 7 [.str ⟨#[]⟩, .int .i64 0, .str ⟨#[]⟩, .int .i64 0, .int .i64 0, .int .i64 0, .int .i64 0] 0 [], none⟩,
      ⟨some 26, .faddr (.tmp 5) 2, none⟩,
      ⟨some 27, .load (.tmp 26) 1 false .plain, none⟩,
      ⟨some 28, .append 7 72 true (.tmp 25) (.tmp 27), none⟩,
      ⟨some 29, .faddr (.tmp 5) 2, none⟩,
      ⟨none, .store (.tmp 29) (.tmp 28) 1, none⟩] [1, 2, 3, 4, 5])
    (.region [
      ⟨some 30, .faddr (.tmp 3) 2, none⟩,
      ⟨some 31, .load (.tmp 30) 1 false .plain, none⟩,
      ⟨some 32, .load (.tmp 5) 3 true .plain, none⟩,
      ⟨some 33, .bslice 3 [.str ⟨#[]⟩, .int .i64 0, .sl .own 7 []] 1 [(0, .tmp 32)], none⟩,
      ⟨some 34, .append 3 48 false (.tmp 31) (.tmp 33), none⟩,
      ⟨some 35, .faddr (.tmp 3) 2, none⟩,
      ⟨none, .store (.tmp 35) (.tmp 34) 1, none⟩] [1, 2, 3, 4]))))
  (.region [
    ⟨some 18, .mov (.tmp 4), none⟩,
    ⟨some 19, .bin .add (.tmp 18) (.const (.int .i64 1)), none⟩,
    ⟨some 4, .mov (.tmp 19), none⟩] [1, 2, 3, 4])))
def c121 : CFn := ⟨37, [.cell 2 3 true],
  (.seq (.region [
    ⟨some 1, .box (.tmp 0), none⟩,
    ⟨some 2, .alloc [.int .i64 0, .sl .own 5 [], .sl .own 3 []], none⟩] [1, 2])
  (.seq (.loud [
    ⟨some 6, .faddr (.tmp 1) 0, none⟩,
    ⟨some 7, .load (.tmp 6) 1 false .plain, none⟩,
    ⟨some 8, .bslice 5 [.str ⟨#[]⟩, .str ⟨#[]⟩, .str ⟨#[]⟩, .int .i64 0, .int .i64 0] 0 [], none⟩,
    ⟨some 9, .faddr (.tmp 1) 1, none⟩,
    ⟨some 10, .load (.tmp 9) 1 false .plain, none⟩,
    ⟨some 11, .append 5 64 true (.tmp 8) (.tmp 10), none⟩,
    ⟨some 12, .build [.int .i64 0, .sl .own 5 [], .sl .own 3 []] [(0, 1, .tmp 7), (1, 1, .tmp 11)], none⟩,
    ⟨some 3, .alloc [.int .i64 0, .sl .own 5 [], .sl .own 3 []], none⟩,
    ⟨none, .store (.tmp 3) (.tmp 12) 3, none⟩] [0, 1, 0, 0, 8, 28, 63, 0, 255] [1, 2, 3])
  (.seq (.seq (.region [
    ⟨some 4, .mov (.const (.int .i64 0)), none⟩] [1, 2, 3, 4])
  (.block 0
    (.loop [1, 2, 3, 4] c121b0)))
  (.seq (.region [
    ⟨some 36, .load (.tmp 3) 3 true .plain, none⟩,
    ⟨none, .store (.tmp 2) (.tmp 36) 3, none⟩] [2])
  .ret))))⟩
-- impl.copyLand
def c122b0 : CCode := (.seq (.region [
    ⟨some 14, .bin .lss (.tmp 13) (.tmp 12), none⟩] [1, 2, 3, 11, 12, 13, 14])
  (.seq (.cond (.tmp 14)
    .skip
    (.exit 0))
  (.seq (.block 1
    (.seq (.region [
      ⟨some 15, .iaddr 3 (.tmp 11) (.tmp 13), none⟩,
      ⟨some 16, .load (.tmp 15) 3 true .plain, none⟩,
      ⟨some 5, .alloc [.str ⟨#[]⟩, .int .i64 0, .sl .own 7 []], none⟩,
      ⟨none, .store (.tmp 5) (.tmp 16) 3, none⟩] [1, 2, 3, 5, 11, 12, 13])
    (.seq (.region [
      ⟨some 17, .faddr (.tmp 5) 2, none⟩,
      ⟨some 18, .load (.tmp 17) 1 false .plain, none⟩,
      ⟨some 19, .append 7 72 true (.const (.sl .own 7 [])) (.tmp 18), none⟩,
      ⟨some 20, .faddr (.tmp 5) 2, none⟩,
      ⟨none, .store (.tmp 20) (.tmp 19) 1, none⟩] [1, 2, 3, 5, 11, 12, 13])
    (.region [
      ⟨some 21, .mov (.tmp 3), none⟩,
      ⟨some 22, .load (.tmp 5) 3 true .plain, none⟩,
      ⟨some 23, .bslice 3 [.str ⟨#[]⟩, .int .i64 0, .sl .own 7 []] 1 [(0, .tmp 22)], none⟩,
      ⟨some 24, .append 3 48 false (.tmp 21) (.tmp 23), none⟩,
      ⟨some 3, .mov (.tmp 24), none⟩] [1, 2, 3, 11, 12, 13]))))
  (.region [
    ⟨some 25, .bin .add (.tmp 13) (.const (.int .i64 1)), none⟩,
    ⟨some 13, .mov (.tmp 25), none⟩] [1, 2, 3, 11, 12, 13]))))
def c122 : CFn := ⟨29, [.cell 2 3 true],
  (.seq (.region [
    ⟨some 1, .box (.tmp 0), none⟩,
    ⟨some 2, .alloc [.int .i64 0, .sl .own 5 [], .sl .own 3 []], none⟩] [1, 2])
  (.seq (.region [
    ⟨some 6, .faddr (.tmp 1) 1, none⟩,
    ⟨some 7, .load (.tmp 6) 1 false .plain, none⟩,
    ⟨some 8, .append 5 64 true (.const (.sl .own 5 [])) (.tmp 7), none⟩,
    ⟨some 9, .faddr (.tmp 1) 1, none⟩,
    ⟨none, .store (.tmp 9) (.tmp 8) 1, none⟩] [1, 2])
  (.seq (.region [
    ⟨some 3, .mov (.const (.sl .own 3 [])), none⟩] [1, 2, 3])
  (.seq (.seq (.region [
    ⟨some 10, .faddr (.tmp 1) 2, none⟩,
    ⟨some 11, .load (.tmp 10) 1 false .plain, none⟩,
    ⟨some 12, .len false (.tmp 11), none⟩,
    ⟨some 13, .mov (.const (.int .i64 0)), none⟩] [1, 2, 3, 11, 12, 13])
  (.block 0
    (.loop [1, 2, 3, 11, 12, 13] c122b0)))
  (.seq (.region [
    ⟨some 26, .mov (.tmp 3), none⟩,
    ⟨some 27, .faddr (.tmp 1) 2, none⟩,
    ⟨none, .store (.tmp 27) (.tmp 26) 1, none⟩] [1, 2])
  (.seq (.region [
    ⟨some 28, .load (.tmp 1) 3 true .plain, none⟩,
    ⟨none, .store (.tmp 2) (.tmp 28) 3, none⟩] [2])
  .ret))))))⟩
-- spec.l6Grant
def c139b0 : CCode := (.seq (.seq (.region [
    ⟨some 6, .mov (.tmp 5), none⟩,
    ⟨some 7, .faddr (.tmp 2) 1, none⟩,
    ⟨some 8, .load (.tmp 7) 1 false .plain, none⟩,
    ⟨some 9, .len false (.tmp 8), none⟩,
    ⟨some 10, .bin .lss (.tmp 6) (.tmp 9), none⟩] [1, 2, 5, 10])
  (.cond (.tmp 10)
    .skip
    (.exit 0)))
  (.seq (.block 1
    (.seq (.region [
      ⟨some 13, .faddr (.tmp 2) 1, none⟩,
      ⟨some 14, .load (.tmp 13) 1 false .plain, none⟩,
      ⟨some 15, .mov (.tmp 5), none⟩,
      ⟨some 16, .iaddr 5 (.tmp 14) (.tmp 15), none⟩,
      ⟨some 17, .faddr (.tmp 16) 0, none⟩,
      ⟨some 18, .load (.tmp 17) 1 false .plain, none⟩,
      ⟨some 19, .mov (.tmp 1), none⟩,
      ⟨some 20, .bin .eql (.tmp 18) (.tmp 19), none⟩] [1, 2, 5, 20])
    (.cond (.tmp 20)
      (.seq (.region [
        ⟨some 21, .mov (.tmp 5), none⟩,
        ⟨some 4, .mov (.tmp 21), none⟩] [4])
      .ret)
      .skip)))
  (.region [
    ⟨some 11, .mov (.tmp 5), none⟩,
    ⟨some 12, .bin .add (.tmp 11) (.const (.int .i64 1)), none⟩,
    ⟨some 5, .mov (.tmp 12), none⟩] [1, 2, 5])))
def c139 : CFn := ⟨22, [.tmp 4],
  (.seq (.region [
    ⟨some 2, .box (.tmp 0), none⟩,
    ⟨some 4, .mov (.const (.int .i64 0)), none⟩] [1, 2])
  (.seq (.seq (.region [
    ⟨some 5, .mov (.const (.int .i64 0)), none⟩] [1, 2, 5])
  (.block 0
    (.loop [1, 2, 5] c139b0)))
  (.seq (.region [
    ⟨some 4, .mov (.const (.int .i64 (-1))), none⟩] [4])
  .ret)))⟩
-- spec.l7Dec
def c140 : CFn := ⟨20, [.tmp 2],
  (.seq (.region [
    ⟨some 2, .mov (.const (.str ⟨#[]⟩)), none⟩] [0])
  (.seq (.seq (.region [
    ⟨some 3, .mov (.tmp 0), none⟩,
    ⟨some 4, .bin .lss (.tmp 3) (.const (.int .i64 10)), none⟩] [0, 4])
  (.cond (.tmp 4)
    (.seq (.region [
      ⟨some 5, .mov (.tmp 0), none⟩,
      ⟨some 6, .bin .add (.const (.int .i64 48)) (.tmp 5), none⟩,
      ⟨some 7, .conv .u8 (.tmp 6), none⟩,
      ⟨some 8, .bslice 1 [.int .u8 0] 1 [(0, .tmp 7)], none⟩,
      ⟨some 9, .toStr (.tmp 8), none⟩,
      ⟨some 2, .mov (.tmp 9), none⟩] [2])
    .ret)
    .skip))
  (.seq (.loud [
    ⟨some 10, .mov (.tmp 0), none⟩,
    ⟨some 11, .bin .quo (.tmp 10) (.const (.int .i64 10)), none⟩,
    ⟨some 12, .call 140 [false] [.tmp 11], none⟩,
    ⟨some 13, .mov (.tmp 0), none⟩,
    ⟨some 14, .bin .rem (.tmp 13) (.const (.int .i64 10)), none⟩,
    ⟨some 15, .bin .add (.const (.int .i64 48)) (.tmp 14), none⟩,
    ⟨some 16, .conv .u8 (.tmp 15), none⟩,
    ⟨some 17, .bslice 1 [.int .u8 0] 1 [(0, .tmp 16)], none⟩,
    ⟨some 18, .toStr (.tmp 17), none⟩,
    ⟨some 19, .bin .add (.tmp 12) (.tmp 18), none⟩,
    ⟨some 2, .mov (.tmp 19), none⟩] [0, 1, 3, 0, 8, 24, 56, 120, 248, 511, 1023] [2])
  .ret)))⟩
-- spec.l6Any
def c141b0 : CCode := (.seq (.seq (.region [
    ⟨some 21, .faddr (.tmp 3) 1, none⟩,
    ⟨some 22, .load (.tmp 21) 1 false .plain, none⟩,
    ⟨some 23, .len false (.tmp 22), none⟩,
    ⟨some 24, .mov (.tmp 4), none⟩,
    ⟨some 25, .bin .lss (.tmp 23) (.tmp 24), none⟩] [0, 2, 3, 4, 5, 25])
  (.cond (.tmp 25)
    .skip
    (.exit 1)))
  (.seq (.block 2
    (.loud [
      ⟨some 28, .faddr (.tmp 3) 1, none⟩,
      ⟨some 29, .load (.tmp 28) 1 false .plain, none⟩,
      ⟨some 30, .mov (.tmp 5), none⟩,
      ⟨some 31, .bin .quo (.tmp 30) (.const (.int .i64 26)), none⟩,
      ⟨some 32, .bin .add (.const (.int .i64 97)) (.tmp 31), none⟩,
      ⟨some 33, .conv .u8 (.tmp 32), none⟩,
      ⟨some 34, .mov (.tmp 5), none⟩,
      ⟨some 35, .bin .rem (.tmp 34) (.const (.int .i64 26)), none⟩,
      ⟨some 36, .bin .add (.const (.int .i64 97)) (.tmp 35), none⟩,
      ⟨some 37, .conv .u8 (.tmp 36), none⟩,
      ⟨some 38, .bslice 1 [.int .u8 0] 2 [(0, .tmp 33), (1, .tmp 37)], none⟩,
      ⟨some 39, .toStr (.tmp 38), none⟩,
      ⟨some 40, .bin .add (.const (.str ⟨#[122]⟩)) (.tmp 39), none⟩,
      ⟨some 41, .faddr (.tmp 3) 0, none⟩,
      ⟨some 42, .load (.tmp 41) 1 false .plain, none⟩,
      ⟨some 43, .mov (.tmp 0), none⟩,
      ⟨some 44, .call 89 [true, false] [.tmp 43, .const (.int .i64 3)], none⟩,
      ⟨some 45, .bin .add (.tmp 42) (.tmp 44), none⟩,
      ⟨some 46, .build [.str ⟨#[]⟩, .str ⟨#[]⟩, .str ⟨#[]⟩, .int .i64 0, .int .i64 0] [(0, 1, .tmp 40), (1, 1, .const (.str ⟨#[98]⟩)), (2, 1, .const (.str ⟨#[99]⟩)), (4, 1, .tmp 45)], none⟩,
      ⟨some 47, .bslice 5 [.str ⟨#[]⟩, .str ⟨#[]⟩, .str ⟨#[]⟩, .int .i64 0, .int .i64 0] 1 [(0, .tmp 46)], none⟩,
      ⟨some 48, .append 5 64 true (.tmp 29) (.tmp 47), none⟩,
      ⟨some 49, .faddr (.tmp 3) 1, none⟩,
      ⟨none, .store (.tmp 49) (.tmp 48) 1, none⟩] [0, 1, 0, 4, 12, 28, 0, 64, 192, 448, 1020, 2044, 4092, 0, 8192, 0, 32768, 122880, 262140, 524284, 1048575, 2097151, 4194303] [0, 2, 3, 4, 5]))
  (.region [
    ⟨some 26, .mov (.tmp 5), none⟩,
    ⟨some 27, .bin .add (.tmp 26) (.const (.int .i64 1)), none⟩,
    ⟨some 5, .mov (.tmp 27), none⟩] [0, 2, 3, 4, 5])))
def c141 : CFn := ⟨65, [.cell 2 3 true],
  (.seq (.region [
    ⟨some 2, .alloc [.int .i64 0, .sl .own 5 [], .sl .own 3 []], none⟩] [0, 2])
  (.seq (.region [
    ⟨some 7, .mov (.tmp 0), none⟩,
    ⟨some 8, .call 158 [true] [.tmp 7], none⟩,
    ⟨some 3, .alloc [.int .i64 0, .sl .own 5 [], .sl .own 3 []], none⟩,
    ⟨none, .store (.tmp 3) (.tmp 8) 3, none⟩] [0, 2, 3])
  (.seq (.seq (.region [
    ⟨some 9, .mov (.tmp 0), none⟩,
    ⟨some 10, .call 89 [true, false] [.tmp 9, .const (.int .i64 20)], none⟩] [0, 2, 3, 10])
  (.block 0
    (.seq (.region [
      ⟨some 12, .bin .eql (.tmp 10) (.const (.int .i64 0)), none⟩,
      ⟨some 11, .mov (.tmp 12), none⟩] [0, 2, 3, 10, 11])
    (.cond (.tmp 11)
      (.seq (.region [
        ⟨some 13, .mov (.tmp 0), none⟩,
        ⟨some 14, .load (.tmp 3) 3 true .plain, none⟩,
        ⟨some 15, .call 157 [true, false] [.tmp 13, .tmp 14], none⟩,
        ⟨none, .store (.tmp 2) (.tmp 15) 3, none⟩] [2])
      .ret)
      (.seq (.region [
        ⟨some 17, .bin .eql (.tmp 10) (.const (.int .i64 1)), none⟩,
        ⟨some 16, .mov (.tmp 17), none⟩] [0, 2, 3, 10, 16])
      (.cond (.tmp 16)
        (.seq (.region [
          ⟨some 18, .mov (.tmp 0), none⟩,
          ⟨some 19, .call 89 [true, false] [.tmp 18, .const (.int .i64 2)], none⟩,
          ⟨some 20, .bin .sub (.const (.int .i64 40)) (.tmp 19), none⟩,
          ⟨some 4, .mov (.tmp 20), none⟩] [0, 2, 3, 4])
        (.seq (.region [
          ⟨some 5, .mov (.const (.int .i64 0)), none⟩] [0, 2, 3, 4, 5])
        (.block 1
          (.loop [0, 2, 3, 4, 5] c141b0))))
        (.seq (.region [
          ⟨some 51, .bin .eql (.tmp 10) (.const (.int .i64 2)), none⟩,
          ⟨some 50, .mov (.tmp 51), none⟩] [0, 2, 3, 50])
        (.cond (.tmp 50)
          (.seq (.loud [
            ⟨some 52, .faddr (.tmp 3) 0, none⟩,
            ⟨some 53, .load (.tmp 52) 1 false .plain, none⟩,
            ⟨some 54, .bin .sub (.const (.int .i64 2000000)) (.tmp 53), none⟩,
            ⟨some 55, .mov (.tmp 0), none⟩,
            ⟨some 56, .call 89 [true, false] [.tmp 55, .const (.int .i64 2)], none⟩,
            ⟨some 57, .bin .mul (.const (.int .i64 2)) (.tmp 56), none⟩,
            ⟨some 58, .bin .sub (.tmp 54) (.tmp 57), none⟩,
            ⟨some 6, .mov (.tmp 58), none⟩] [0, 1, 3, 0, 8, 24, 63, 127] [2, 3, 6])
          (.region [
            ⟨some 59, .faddr (.tmp 3) 0, none⟩,
            ⟨some 60, .load (.tmp 59) 1 false .plain, none⟩,
            ⟨some 61, .mov (.tmp 6), none⟩,
            ⟨some 62, .bin .add (.tmp 60) (.tmp 61), none⟩,
            ⟨some 63, .faddr (.tmp 3) 0, none⟩,
            ⟨none, .store (.tmp 63) (.tmp 62) 1, none⟩] [2, 3]))
          .skip))))))))
  (.seq (.region [
    ⟨some 64, .load (.tmp 3) 3 true .plain, none⟩,
    ⟨none, .store (.tmp 2) (.tmp 64) 3, none⟩] [2])
  .ret))))⟩
-- spec.l6Asked
def c142b0 : CCode := (.seq (.seq (.region [
    ⟨some 79, .mov (.tmp 9), none⟩,
    ⟨some 80, .faddr (.tmp 2) 1, none⟩,
    ⟨some 81, .load (.tmp 80) 1 false .plain, none⟩,
    ⟨some 82, .len false (.tmp 81), none⟩,
    ⟨some 83, .bin .lss (.tmp 79) (.tmp 82), none⟩] [2, 3, 4, 8, 9, 83])
  (.cond (.tmp 83)
    .skip
    (.exit 0)))
  (.seq (.block 1
    (.seq (.quiet [
      ⟨some 86, .faddr (.tmp 2) 1, none⟩,
      ⟨some 87, .load (.tmp 86) 1 false .plain, none⟩,
      ⟨some 88, .mov (.tmp 9), none⟩,
      ⟨some 89, .iaddr 5 (.tmp 87) (.tmp 88), none⟩,
      ⟨some 90, .faddr (.tmp 89) 4, none⟩,
      ⟨some 91, .load (.tmp 90) 1 false .plain, none⟩,
      ⟨some 92, .faddr (.tmp 2) 0, none⟩,
      ⟨some 93, .load (.tmp 92) 1 false .plain, none⟩,
      ⟨some 94, .bin .gtr (.tmp 91) (.tmp 93), none⟩] [2, 3, 4, 8, 9, 94])
    (.cond (.tmp 94)
      (.region [
        ⟨some 95, .mov (.tmp 8), none⟩,
        ⟨some 96, .faddr (.tmp 2) 1, none⟩,
        ⟨some 97, .load (.tmp 96) 1 false .plain, none⟩,
        ⟨some 98, .mov (.tmp 9), none⟩,
        ⟨some 99, .iaddr 5 (.tmp 97) (.tmp 98), none⟩,
        ⟨some 100, .load (.tmp 99) 5 true .plain, none⟩,
        ⟨some 101, .bslice 5 [.str ⟨#[]⟩, .str ⟨#[]⟩, .str ⟨#[]⟩, .int .i64 0, .int .i64 0] 1 [(0, .tmp 100)], none⟩,
        ⟨some 102, .append 5 64 true (.tmp 95) (.tmp 101), none⟩,
        ⟨some 8, .mov (.tmp 102), none⟩] [2, 3, 4, 8, 9])
      .skip)))
  (.region [
    ⟨some 84, .mov (.tmp 9), none⟩,
    ⟨some 85, .bin .add (.tmp 84) (.const (.int .i64 1)), none⟩,
    ⟨some 9, .mov (.tmp 85), none⟩] [2, 3, 4, 8, 9])))
def c142b1 : CCode := (.seq (.seq (.quiet [
    ⟨some 110, .mov (.tmp 10), none⟩,
    ⟨some 111, .faddr (.tmp 2) 1, none⟩,
    ⟨some 112, .load (.tmp 111) 1 false .plain, none⟩,
    ⟨some 113, .len false (.tmp 112), none⟩,
    ⟨some 114, .bin .lss (.tmp 110) (.tmp 113), none⟩,
    ⟨some 115, .mov (.tmp 114), none⟩,
    ⟨some 116, .faddr (.tmp 2) 1, some (115, true)⟩,
    ⟨some 117, .load (.tmp 116) 1 false .plain, some (115, true)⟩,
    ⟨some 118, .mov (.tmp 10), some (115, true)⟩,
    ⟨some 119, .iaddr 5 (.tmp 117) (.tmp 118), some (115, true)⟩,
    ⟨some 120, .faddr (.tmp 119) 0, some (115, true)⟩,
    ⟨some 121, .load (.tmp 120) 1 false .plain, some (115, true)⟩,
    ⟨some 122, .faddr (.tmp 3) 4, some (115, true)⟩,
    ⟨some 123, .load (.tmp 122) 1 false .plain, some (115, true)⟩,
    ⟨some 124, .bin .lss (.tmp 121) (.tmp 123), some (115, true)⟩,
    ⟨some 125, .pick (.tmp 115) (.tmp 124) (.const (.bool false)), none⟩] [2, 3, 4, 10, 125])
  (.cond (.tmp 125)
    .skip
    (.exit 2)))
  (.block 3
    (.region [
      ⟨some 126, .mov (.tmp 10), none⟩,
      ⟨some 127, .bin .add (.tmp 126) (.const (.int .i64 1)), none⟩,
      ⟨some 10, .mov (.tmp 127), none⟩] [2, 3, 4, 10])))
def c142 : CFn := ⟨156, [.cell 4 3 true, .tmp 5],
  (.seq (.region [
    ⟨some 2, .box (.tmp 0), none⟩,
    ⟨some 3, .box (.tmp 1), none⟩,
    ⟨some 4, .alloc [.int .i64 0, .sl .own 5 [], .sl .own 3 []], none⟩,
    ⟨some 5, .mov (.const (.bool false)), none⟩] [2, 3, 4])
  (.seq (.seq (.region [
    ⟨some 12, .load (.tmp 2) 3 true .plain, none⟩,
    ⟨some 13, .faddr (.tmp 3) 1, none⟩,
    ⟨some 14, .load (.tmp 13) 1 false .plain, none⟩,
    ⟨some 15, .faddr (.tmp 3) 5, none⟩,
    ⟨some 16, .load (.tmp 15) 1 false .plain, none⟩,
    ⟨some 17, .faddr (.tmp 3) 4, none⟩,
    ⟨some 18, .load (.tmp 17) 1 false .plain, none⟩,
    ⟨some 19, .call 159 [false, false, false, false] [.tmp 12, .tmp 14, .tmp 16, .tmp 18], none⟩,
    ⟨some 20, .un .not (.tmp 19), none⟩] [2, 3, 4, 20])
  (.cond (.tmp 20)
    (.seq (.region [
      ⟨some 21, .blank 3 (.tmp 2), none⟩,
      ⟨none, .store (.tmp 4) (.tmp 21) 3, none⟩,
      ⟨some 5, .mov (.const (.bool false)), none⟩] [4, 5])
    .ret)
    .skip))
  (.seq (.region [
    ⟨some 22, .load (.tmp 2) 3 true .plain, none⟩,
    ⟨some 23, .faddr (.tmp 3) 4, none⟩,
    ⟨some 24, .load (.tmp 23) 1 false .plain, none⟩,
    ⟨some 25, .call 139 [false, false] [.tmp 22, .tmp 24], none⟩,
    ⟨some 6, .mov (.tmp 25), none⟩] [2, 3, 4, 6])
  (.seq (.seq (.region [
    ⟨some 26, .mov (.tmp 6), none⟩,
    ⟨some 27, .bin .geq (.tmp 26) (.const (.int .i64 0)), none⟩] [2, 3, 4, 6, 27])
  (.cond (.tmp 27)
    (.seq (.region [
      ⟨some 28, .faddr (.tmp 2) 1, none⟩,
      ⟨some 29, .load (.tmp 28) 1 false .plain, none⟩,
      ⟨some 30, .mov (.tmp 6), none⟩,
      ⟨some 31, .iaddr 5 (.tmp 29) (.tmp 30), none⟩,
      ⟨some 32, .load (.tmp 31) 5 true .plain, none⟩,
      ⟨some 7, .alloc [.str ⟨#[]⟩, .str ⟨#[]⟩, .str ⟨#[]⟩, .int .i64 0, .int .i64 0], none⟩,
      ⟨none, .store (.tmp 7) (.tmp 32) 5, none⟩] [2, 3, 4, 6, 7])
    (.seq (.seq (.region [
      ⟨some 33, .faddr (.tmp 7) 4, none⟩,
      ⟨some 34, .load (.tmp 33) 1 false .plain, none⟩,
      ⟨some 35, .faddr (.tmp 2) 0, none⟩,
      ⟨some 36, .load (.tmp 35) 1 false .plain, none⟩,
      ⟨some 37, .bin .gtr (.tmp 34) (.tmp 36), none⟩,
      ⟨some 38, .mov (.tmp 37), none⟩,
      ⟨some 39, .faddr (.tmp 7) 1, some (38, true)⟩,
      ⟨some 40, .load (.tmp 39) 1 false .plain, some (38, true)⟩,
      ⟨some 41, .faddr (.tmp 3) 1, some (38, true)⟩,
      ⟨some 42, .load (.tmp 41) 1 false .plain, some (38, true)⟩,
      ⟨some 43, .bin .eql (.tmp 40) (.tmp 42), some (38, true)⟩,
      ⟨some 44, .mov (.tmp 43), some (38, true)⟩,
      ⟨some 45, .faddr (.tmp 7) 2, some (44, true)⟩,
      ⟨some 46, .load (.tmp 45) 1 false .plain, some (44, true)⟩,
      ⟨some 47, .faddr (.tmp 3) 5, some (44, true)⟩,
      ⟨some 48, .load (.tmp 47) 1 false .plain, some (44, true)⟩,
      ⟨some 49, .bin .eql (.tmp 46) (.tmp 48), some (44, true)⟩,
      ⟨some 50, .pick (.tmp 44) (.tmp 49) (.const (.bool false)), some (38, true)⟩,
      ⟨some 51, .mov (.tmp 50), some (38, true)⟩,
      ⟨some 52, .faddr (.tmp 7) 3, some (51, true)⟩,
      ⟨some 53, .load (.tmp 52) 1 false .plain, some (51, true)⟩,
      ⟨some 54, .faddr (.tmp 3) 6, some (51, true)⟩,
      ⟨some 55, .load (.tmp 54) 1 false .plain, some (51, true)⟩,
      ⟨some 56, .bin .leq (.tmp 53) (.tmp 55), some (51, true)⟩,
      ⟨some 57, .pick (.tmp 51) (.tmp 56) (.const (.bool false)), some (38, true)⟩,
      ⟨some 58, .un .not (.tmp 57), some (38, true)⟩,
      ⟨some 59, .pick (.tmp 38) (.tmp 58) (.const (.bool false)), none⟩] [2, 3, 4, 6, 59])
    (.cond (.tmp 59)
      (.seq (.region [
        ⟨some 60, .blank 3 (.tmp 2), none⟩,
        ⟨none, .store (.tmp 4) (.tmp 60) 3, none⟩,
        ⟨some 5, .mov (.const (.bool false)), none⟩] [4, 5])
      .ret)
      .skip))
    (.loud [
      ⟨some 61, .bslice 5 [.str ⟨#[]⟩, .str ⟨#[]⟩, .str ⟨#[]⟩, .int .i64 0, .int .i64 0] 0 [], none⟩,
      ⟨some 62, .faddr (.tmp 2) 1, none⟩,
      ⟨some 63, .load (.tmp 62) 1 false .plain, none⟩,
      ⟨some 64, .mov (.tmp 6), none⟩,
      ⟨some 65, .slice 5 (.tmp 63) none (some (.tmp 64)), none⟩,
      ⟨some 66, .append 5 64 true (.tmp 61) (.tmp 65), none⟩,
      ⟨some 67, .faddr (.tmp 2) 1, none⟩,
      ⟨some 68, .load (.tmp 67) 1 false .plain, none⟩,
      ⟨some 69, .mov (.tmp 6), none⟩,
      ⟨some 70, .bin .add (.tmp 69) (.const (.int .i64 1)), none⟩,
      ⟨some 71, .slice 5 (.tmp 68) (some (.tmp 70)) none, none⟩,
      ⟨some 72, .append 5 64 true (.tmp 66) (.tmp 71), none⟩,
      ⟨some 73, .faddr (.tmp 2) 1, none⟩,
      ⟨none, .store (.tmp 73) (.tmp 72) 1, none⟩] [0, 0, 2, 0, 14, 31, 0, 64, 0, 256, 960, 2047, 4095, 8191] [2, 3, 4])))
    .skip))
  (.seq (.seq (.region [
    ⟨some 74, .faddr (.tmp 2) 1, none⟩,
    ⟨some 75, .load (.tmp 74) 1 false .plain, none⟩,
    ⟨some 76, .len false (.tmp 75), none⟩,
    ⟨some 77, .bin .geq (.tmp 76) (.const (.int .i64 40)), none⟩] [2, 3, 4, 77])
  (.cond (.tmp 77)
    (.seq (.region [
      ⟨some 78, .bslice 5 [.str ⟨#[]⟩, .str ⟨#[]⟩, .str ⟨#[]⟩, .int .i64 0, .int .i64 0] 0 [], none⟩,
      ⟨some 8, .mov (.tmp 78), none⟩] [2, 3, 4, 8])
    (.seq (.seq (.region [
      ⟨some 9, .mov (.const (.int .i64 0)), none⟩] [2, 3, 4, 8, 9])
    (.block 0
      (.loop [2, 3, 4, 8, 9] c142b0)))
    (.region [
      ⟨some 103, .mov (.tmp 8), none⟩,
      ⟨some 104, .faddr (.tmp 2) 1, none⟩,
      ⟨none, .store (.tmp 104) (.tmp 103) 1, none⟩] [2, 3, 4])))
    .skip))
  (.seq (.seq (.region [
    ⟨some 105, .faddr (.tmp 2) 1, none⟩,
    ⟨some 106, .load (.tmp 105) 1 false .plain, none⟩,
    ⟨some 107, .len false (.tmp 106), none⟩,
    ⟨some 108, .bin .geq (.tmp 107) (.const (.int .i64 40)), none⟩] [2, 3, 4, 108])
  (.cond (.tmp 108)
    (.seq (.region [
      ⟨some 109, .blank 3 (.tmp 2), none⟩,
      ⟨none, .store (.tmp 4) (.tmp 109) 3, none⟩,
      ⟨some 5, .mov (.const (.bool false)), none⟩] [4, 5])
    .ret)
    .skip))
  (.seq (.region [
    ⟨some 10, .mov (.const (.int .i64 0)), none⟩] [2, 3, 4, 10])
  (.seq (.block 2
    (.loop [2, 3, 4, 10] c142b1))
  (.seq (.region [
    ⟨some 128, .faddr (.tmp 3) 4, none⟩,
    ⟨some 129, .load (.tmp 128) 1 false .plain, none⟩,
    ⟨some 130, .faddr (.tmp 3) 1, none⟩,
    ⟨some 131, .load (.tmp 130) 1 false .plain, none⟩,
    ⟨some 132, .faddr (.tmp 3) 5, none⟩,
    ⟨some 133, .load (.tmp 132) 1 false .plain, none⟩,
    ⟨some 134, .faddr (.tmp 3) 6, none⟩,
    ⟨some 135, .load (.tmp 134) 1 false .plain, none⟩,
    ⟨some 136, .faddr (.tmp 2) 0, none⟩,
    ⟨some 137, .load (.tmp 136) 1 false .plain, none⟩,
    ⟨some 138, .bin .add (.tmp 137) (.const (.int .i64 32)), none⟩,
    ⟨some 139, .build [.str ⟨#[]⟩, .str ⟨#[]⟩, .str ⟨#[]⟩, .int .i64 0, .int .i64 0] [(0, 1, .tmp 129), (1, 1, .tmp 131), (2, 1, .tmp 133), (3, 1, .tmp 135), (4, 1, .tmp 138)], none⟩,
    ⟨some 11, .alloc [.str ⟨#[]⟩, .str ⟨#[]⟩, .str ⟨#[]⟩, .int .i64 0, .int .i64 0], none⟩,
    ⟨none, .store (.tmp 11) (.tmp 139) 5, none⟩] [2, 4, 10, 11])
  (.seq (.loud [
    ⟨some 140, .bslice 5 [.str ⟨#[]⟩, .str ⟨#[]⟩, .str ⟨#[]⟩, .int .i64 0, .int .i64 0] 0 [], none⟩,
    ⟨some 141, .faddr (.tmp 2) 1, none⟩,
    ⟨some 142, .load (.tmp 141) 1 false .plain, none⟩,
    ⟨some 143, .mov (.tmp 10), none⟩,
    ⟨some 144, .slice 5 (.tmp 142) none (some (.tmp 143)), none⟩,
    ⟨some 145, .append 5 64 true (.tmp 140) (.tmp 144), none⟩,
    ⟨some 146, .load (.tmp 11) 5 true .plain, none⟩,
    ⟨some 147, .bslice 5 [.str ⟨#[]⟩, .str ⟨#[]⟩, .str ⟨#[]⟩, .int .i64 0, .int .i64 0] 1 [(0, .tmp 146)], none⟩,
    ⟨some 148, .append 5 64 true (.tmp 145) (.tmp 147), none⟩,
    ⟨some 149, .faddr (.tmp 2) 1, none⟩,
    ⟨some 150, .load (.tmp 149) 1 false .plain, none⟩,
    ⟨some 151, .mov (.tmp 10), none⟩,
    ⟨some 152, .slice 5 (.tmp 150) (some (.tmp 151)) none, none⟩,
    ⟨some 153, .append 5 64 true (.tmp 148) (.tmp 152), none⟩,
    ⟨some 154, .faddr (.tmp 2) 1, none⟩,
    ⟨none, .store (.tmp 154) (.tmp 153) 1, none⟩] [0, 0, 2, 0, 14, 31, 0, 64, 255, 0, 512, 0, 3584, 8191, 16383, 32767] [2, 4])
  (.seq (.region [
    ⟨some 155, .load (.tmp 2) 3 true .plain, none⟩,
    ⟨none, .store (.tmp 4) (.tmp 155) 3, none⟩,
    ⟨some 5, .mov (.const (.bool true)), none⟩] [4, 5])
  .ret)))))))))))⟩
-- laws.wParcel
def c143 : CFn := ⟨52, [.tmp 4],
  (.seq (.region [
    ⟨some 2, .box (.tmp 0), none⟩,
    ⟨some 3, .box (.tmp 1), none⟩,
    ⟨some 4, .mov (.const (.bool false)), none⟩] [2, 3])
  (.seq (.region [
    ⟨some 5, .faddr (.tmp 2) 0, none⟩,
    ⟨some 6, .load (.tmp 5) 1 false .plain, none⟩,
    ⟨some 7, .faddr (.tmp 3) 0, none⟩,
    ⟨some 8, .load (.tmp 7) 1 false .plain, none⟩,
    ⟨some 9, .bin .eql (.tmp 6) (.tmp 8), none⟩,
    ⟨some 10, .mov (.tmp 9), none⟩,
    ⟨some 11, .faddr (.tmp 2) 1, some (10, true)⟩,
    ⟨some 12, .load (.tmp 11) 1 false .plain, some (10, true)⟩,
    ⟨some 13, .faddr (.tmp 3) 1, some (10, true)⟩,
    ⟨some 14, .load (.tmp 13) 1 false .plain, some (10, true)⟩,
    ⟨some 15, .bin .eql (.tmp 12) (.tmp 14), some (10, true)⟩,
    ⟨some 16, .pick (.tmp 10) (.tmp 15) (.const (.bool false)), none⟩,
    ⟨some 17, .mov (.tmp 16), none⟩,
    ⟨some 18, .faddr (.tmp 2) 2, some (17, true)⟩,
    ⟨some 19, .load (.tmp 18) 1 false .plain, some (17, true)⟩,
    ⟨some 20, .faddr (.tmp 3) 2, some (17, true)⟩,
    ⟨some 21, .load (.tmp 20) 1 false .plain, some (17, true)⟩,
    ⟨some 22, .bin .eql (.tmp 19) (.tmp 21), some (17, true)⟩,
    ⟨some 23, .pick (.tmp 17) (.tmp 22) (.const (.bool false)), none⟩,
    ⟨some 24, .mov (.tmp 23), none⟩,
    ⟨some 25, .faddr (.tmp 2) 3, some (24, true)⟩,
    ⟨some 26, .load (.tmp 25) 1 false .plain, some (24, true)⟩,
    ⟨some 27, .faddr (.tmp 3) 3, some (24, true)⟩,
    ⟨some 28, .load (.tmp 27) 1 false .plain, some (24, true)⟩,
    ⟨some 29, .call 118 [false, false] [.tmp 26, .tmp 28], some (24, true)⟩,
    ⟨some 30, .pick (.tmp 24) (.tmp 29) (.const (.bool false)), none⟩,
    ⟨some 31, .mov (.tmp 30), none⟩,
    ⟨some 32, .faddr (.tmp 2) 4, some (31, true)⟩,
    ⟨some 33, .load (.tmp 32) 1 false .plain, some (31, true)⟩,
    ⟨some 34, .faddr (.tmp 3) 4, some (31, true)⟩,
    ⟨some 35, .load (.tmp 34) 1 false .plain, some (31, true)⟩,
    ⟨some 36, .bin .eql (.tmp 33) (.tmp 35), some (31, true)⟩,
    ⟨some 37, .pick (.tmp 31) (.tmp 36) (.const (.bool false)), none⟩,
    ⟨some 38, .mov (.tmp 37), none⟩,
    ⟨some 39, .faddr (.tmp 2) 5, some (38, true)⟩,
    ⟨some 40, .load (.tmp 39) 1 false .plain, some (38, true)⟩,
    ⟨some 41, .faddr (.tmp 3) 5, some (38, true)⟩,
    ⟨some 42, .load (.tmp 41) 1 false .plain, some (38, true)⟩,
    ⟨some 43, .bin .eql (.tmp 40) (.tmp 42), some (38, true)⟩,
    ⟨some 44, .pick (.tmp 38) (.tmp 43) (.const (.bool false)), none⟩,
    ⟨some 45, .mov (.tmp 44), none⟩,
    ⟨some 46, .faddr (.tmp 2) 6, some (45, true)⟩,
    ⟨some 47, .load (.tmp 46) 1 false .plain, some (45, true)⟩,
    ⟨some 48, .faddr (.tmp 3) 6, some (45, true)⟩,
    ⟨some 49, .load (.tmp 48) 1 false .plain, some (45, true)⟩,
    ⟨some 50, .bin .eql (.tmp 47) (.tmp 49), some (45, true)⟩,
    ⟨some 51, .pick (.tmp 45) (.tmp 50) (.const (.bool false)), none⟩,
    ⟨some 4, .mov (.tmp 51), none⟩] [4])
  .ret))⟩
-- spec.l1SpoilWant
def c144 : CFn := ⟨66, [.cell 4 7 true],
  (.seq (.region [
    ⟨some 3, .box (.tmp 1), none⟩,
    ⟨some 4, .alloc [.str ⟨#[]⟩, .int .i64 0, .str ⟨#[]⟩, .int .i64 0, .int .i64 0, .int .i64 0, .int .i64 0], none⟩] [0, 3, 4])
  (.seq (.seq (.region [
    ⟨some 5, .mov (.tmp 0), none⟩,
    ⟨some 6, .call 89 [true, false] [.tmp 5, .const (.int .i64 7)], none⟩] [0, 3, 4, 6])
  (.block 0
    (.seq (.region [
      ⟨some 14, .bin .eql (.tmp 6) (.const (.int .i64 0)), none⟩,
      ⟨some 13, .mov (.tmp 14), none⟩] [0, 3, 4, 6, 13])
    (.cond (.tmp 13)
      (.region [
        ⟨some 15, .mov (.tmp 0), none⟩,
        ⟨some 16, .call 89 [true, false] [.tmp 15, .const (.int .i64 2)], none⟩,
        ⟨some 17, .bin .add (.const (.int .i64 20)) (.tmp 16), none⟩,
        ⟨some 18, .call 160 [false, false] [.const (.str ⟨#[110]⟩), .tmp 17], none⟩,
        ⟨some 19, .bslice 1 [.str ⟨#[]⟩] 3 [(0, .const (.str ⟨#[]⟩)), (1, .const (.str ⟨#[120, 32, 121]⟩)), (2, .tmp 18)], none⟩,
        ⟨some 20, .mov (.tmp 0), none⟩,
        ⟨some 21, .call 89 [true, false] [.tmp 20, .const (.int .i64 3)], none⟩,
        ⟨some 22, .iaddr 1 (.tmp 19) (.tmp 21), none⟩,
        ⟨some 23, .load (.tmp 22) 1 false .plain, none⟩,
        ⟨some 24, .faddr (.tmp 3) 0, none⟩,
        ⟨none, .store (.tmp 24) (.tmp 23) 1, none⟩] [3, 4])
      (.seq (.region [
        ⟨some 26, .bin .eql (.tmp 6) (.const (.int .i64 1)), none⟩,
        ⟨some 25, .mov (.tmp 26), none⟩] [0, 3, 4, 6, 25])
      (.cond (.tmp 25)
        (.region [
          ⟨some 27, .bslice 1 [.int .i64 0] 3 [(0, .const (.int .i64 0)), (1, .const (.int .i64 1000000)), (2, .const (.int .i64 1000001))], none⟩,
          ⟨some 28, .mov (.tmp 0), none⟩,
          ⟨some 29, .call 89 [true, false] [.tmp 28, .const (.int .i64 3)], none⟩,
          ⟨some 30, .iaddr 1 (.tmp 27) (.tmp 29), none⟩,
          ⟨some 31, .load (.tmp 30) 1 false .plain, none⟩,
          ⟨some 32, .faddr (.tmp 3) 1, none⟩,
          ⟨none, .store (.tmp 32) (.tmp 31) 1, none⟩] [3, 4])
        (.seq (.region [
          ⟨some 34, .bin .eql (.tmp 6) (.const (.int .i64 2)), none⟩,
          ⟨some 33, .mov (.tmp 34), none⟩] [0, 3, 4, 6, 33])
        (.cond (.tmp 33)
          (.region [
            ⟨some 35, .bslice 1 [.str ⟨#[]⟩] 3 [(0, .const (.str ⟨#[120, 32, 121]⟩)), (1, .const (.str ⟨#[42]⟩)), (2, .const (.str ⟨#[118, 111, 108]⟩))], none⟩,
            ⟨some 36, .mov (.tmp 0), none⟩,
            ⟨some 37, .call 89 [true, false] [.tmp 36, .const (.int .i64 3)], none⟩,
            ⟨some 38, .iaddr 1 (.tmp 35) (.tmp 37), none⟩,
            ⟨some 39, .load (.tmp 38) 1 false .plain, none⟩,
            ⟨some 40, .faddr (.tmp 3) 2, none⟩,
            ⟨none, .store (.tmp 40) (.tmp 39) 1, none⟩] [3, 4])
          (.seq (.region [
            ⟨some 42, .bin .eql (.tmp 6) (.const (.int .i64 3)), none⟩,
            ⟨some 41, .mov (.tmp 42), none⟩] [0, 3, 4, 6, 41])
          (.cond (.tmp 41)
            (.region [
              ⟨some 43, .bslice 1 [.int .i64 0] 3 [(0, .const (.int .i64 (-1))), (1, .const (.int .i64 100)), (2, .const (.int .i64 101))], none⟩,
              ⟨some 44, .mov (.tmp 0), none⟩,
              ⟨some 45, .call 89 [true, false] [.tmp 44, .const (.int .i64 3)], none⟩,
              ⟨some 46, .iaddr 1 (.tmp 43) (.tmp 45), none⟩,
              ⟨some 47, .load (.tmp 46) 1 false .plain, none⟩,
              ⟨some 48, .faddr (.tmp 3) 3, none⟩,
              ⟨none, .store (.tmp 48) (.tmp 47) 1, none⟩] [3, 4])
            (.seq (.region [
              ⟨some 50, .bin .eql (.tmp 6) (.const (.int .i64 4)), none⟩,
              ⟨some 49, .mov (.tmp 50), none⟩] [0, 3, 4, 6, 49])
            (.cond (.tmp 49)
              (.region [
                ⟨some 51, .bslice 1 [.int .i64 0] 3 [(0, .const (.int .i64 (-1))), (1, .const (.int .i64 100)), (2, .const (.int .i64 101))], none⟩,
                ⟨some 52, .mov (.tmp 0), none⟩,
                ⟨some 53, .call 89 [true, false] [.tmp 52, .const (.int .i64 3)], none⟩,
                ⟨some 54, .iaddr 1 (.tmp 51) (.tmp 53), none⟩,
                ⟨some 55, .load (.tmp 54) 1 false .plain, none⟩,
                ⟨some 56, .faddr (.tmp 3) 4, none⟩,
                ⟨none, .store (.tmp 56) (.tmp 55) 1, none⟩] [3, 4])
              (.seq (.region [
                ⟨some 58, .bin .eql (.tmp 6) (.const (.int .i64 5)), none⟩,
                ⟨some 57, .mov (.tmp 58), none⟩] [0, 3, 4, 57])
              (.cond (.tmp 57)
                (.region [
                  ⟨some 59, .bslice 1 [.int .i64 0] 3 [(0, .const (.int .i64 (-1))), (1, .const (.int .i64 100)), (2, .const (.int .i64 101))], none⟩,
                  ⟨some 60, .mov (.tmp 0), none⟩,
                  ⟨some 61, .call 89 [true, false] [.tmp 60, .const (.int .i64 3)], none⟩,
                  ⟨some 62, .iaddr 1 (.tmp 59) (.tmp 61), none⟩,
                  ⟨some 63, .load (.tmp 62) 1 false .plain, none⟩,
                  ⟨some 64, .faddr (.tmp 3) 5, none⟩,
                  ⟨none, .store (.tmp 64) (.tmp 63) 1, none⟩] [3, 4])
                (.region [
                  ⟨some 7, .bslice 1 [.int .i64 0] 3 [(0, .const (.int .i64 (-1))), (1, .const (.int .i64 100)), (2, .const (.int .i64 101))], none⟩,
                  ⟨some 8, .mov (.tmp 0), none⟩,
                  ⟨some 9, .call 89 [true, false] [.tmp 8, .const (.int .i64 3)], none⟩,
                  ⟨some 10, .iaddr 1 (.tmp 7) (.tmp 9), none⟩,
                  ⟨some 11, .load (.tmp 10) 1 false .plain, none⟩,
                  ⟨some 12, .faddr (.tmp 3) 6, none⟩,
                  ⟨none, .store (.tmp 12) (.tmp 11) 1, none⟩] [3, 4])))))))))))))))
  (.seq (.region [
    ⟨some 65, .load (.tmp 3) 7 true .plain, none⟩,
    ⟨none, .store (.tmp 4) (.tmp 65) 7, none⟩] [4])
  .ret)))⟩
-- spec.l1Wants
def c145b0 : CCode := (.seq (.seq (.region [
    ⟨some 7, .mov (.tmp 4), none⟩,
    ⟨some 8, .bin .lss (.tmp 7) (.const (.int .i64 4)), none⟩] [0, 3, 4, 8])
  (.cond (.tmp 8)
    .skip
    (.exit 0)))
  (.seq (.block 1
    (.seq (.region [
      ⟨some 11, .mov (.tmp 0), none⟩,
      ⟨some 12, .call 89 [true, false] [.tmp 11, .const (.int .i64 2)], none⟩,
      ⟨some 13, .bin .eql (.tmp 12) (.const (.int .i64 0)), none⟩] [0, 3, 4, 13])
    (.cond (.tmp 13)
      (.seq (.region [
        ⟨some 14, .mov (.tmp 0), none⟩,
        ⟨some 15, .mov (.tmp 4), none⟩,
        ⟨some 16, .call 140 [false] [.tmp 15], none⟩,
        ⟨some 17, .bin .add (.const (.str ⟨#[99]⟩)) (.tmp 16), none⟩,
        ⟨some 18, .call 87 [true, false] [.tmp 14, .tmp 17], none⟩,
        ⟨some 5, .alloc [.str ⟨#[]⟩, .int .i64 0, .str ⟨#[]⟩, .int .i64 0, .int .i64 0, .int .i64 0, .int .i64 0], none⟩,
        ⟨none, .store (.tmp 5) (.tmp 18) 7, none⟩] [0, 3, 4, 5])
      (.seq (.loud [
        ⟨some 19, .bslice 7 [.str ⟨#[]⟩, .int .i64 0, .str ⟨#[]⟩, .int .i64 0, .int .i64 0, .int .i64 0, .int .i64 0] 0 [], none⟩,
        ⟨some 20, .mov (.tmp 3), none⟩,
        ⟨some 21, .append 7 72 true (.tmp 19) (.tmp 20), none⟩,
        ⟨some 22, .load (.tmp 5) 7 true .plain, none⟩,
        ⟨some 23, .bslice 7 [.str ⟨#[]⟩, .int .i64 0, .str ⟨#[]⟩, .int .i64 0, .int .i64 0, .int .i64 0, .int .i64 0] 1 [(0, .tmp 22)], none⟩,
        ⟨some 24, .append 7 72 true (.tmp 21) (.tmp 23), none⟩,
        ⟨some 25, .call 7 [false] [.tmp 24], none⟩] [0, 0, 3, 0, 8, 31, 63] [0, 3, 4, 5, 25])
      (.cond (.tmp 25)
        (.region [
          ⟨some 26, .mov (.tmp 3), none⟩,
          ⟨some 27, .load (.tmp 5) 7 true .plain, none⟩,
          ⟨some 28, .bslice 7 [.str ⟨#[]⟩, .int .i64 0, .str ⟨#[]⟩, .int .i64 0, .int .i64 0, .int .i64 0, .int .i64 0] 1 [(0, .tmp 27)], none⟩,
          ⟨some 29, .append 7 72 true (.tmp 26) (.tmp 28), none⟩,
          ⟨some 3, .mov (.tmp 29), none⟩] [0, 3, 4])
        .skip)))
      .skip)))
  (.region [
    ⟨some 9, .mov (.tmp 4), none⟩,
    ⟨some 10, .bin .add (.tmp 9) (.const (.int .i64 1)), none⟩,
    ⟨some 4, .mov (.tmp 10), none⟩] [0, 3, 4])))
def c145 : CFn := ⟨31, [.tmp 2],
  (.seq (.region [
    ⟨some 2, .mov (.const (.sl .own 7 [])), none⟩] [0])
  (.seq (.region [
    ⟨some 6, .bslice 7 [.str ⟨#[]⟩, .int .i64 0, .str ⟨#[]⟩, .int .i64 0, .int .i64 0, .int .i64 0, .int .i64 0] 0 [], none⟩,
    ⟨some 3, .mov (.tmp 6), none⟩] [0, 3])
  (.seq (.seq (.region [
    ⟨some 4, .mov (.const (.int .i64 0)), none⟩] [0, 3, 4])
  (.block 0
    (.loop [0, 3, 4] c145b0)))
  (.seq (.region [
    ⟨some 30, .mov (.tmp 3), none⟩,
    ⟨some 2, .mov (.tmp 30), none⟩] [2])
  .ret))))⟩
-- spec.l6Spoil
def c157 : CFn := ⟨139, [.cell 4 3 true],
  (.seq (.region [
    ⟨some 3, .box (.tmp 1), none⟩,
    ⟨some 4, .alloc [.int .i64 0, .sl .own 5 [], .sl .own 3 []], none⟩] [0, 3, 4])
  (.seq (.region [
    ⟨some 6, .load (.tmp 3) 3 true .plain, none⟩,
    ⟨some 7, .call 121 [false] [.tmp 6], none⟩,
    ⟨some 5, .alloc [.int .i64 0, .sl .own 5 [], .sl .own 3 []], none⟩,
    ⟨none, .store (.tmp 5) (.tmp 7) 3, none⟩] [0, 4, 5])
  (.seq (.seq (.region [
    ⟨some 8, .mov (.tmp 0), none⟩,
    ⟨some 9, .call 89 [true, false] [.tmp 8, .const (.int .i64 7)], none⟩] [0, 4, 5, 9])
  (.block 0
    (.seq (.region [
      ⟨some 24, .bin .eql (.tmp 9) (.const (.int .i64 0)), none⟩,
      ⟨some 23, .mov (.tmp 24), none⟩] [0, 4, 5, 9, 23])
    (.cond (.tmp 23)
      (.region [
        ⟨some 25, .bslice 1 [.int .i64 0] 4 [(0, .const (.int .i64 (-2))), (1, .const (.int .i64 1)), (2, .const (.int .i64 2000000)), (3, .const (.int .i64 2000002))], none⟩,
        ⟨some 26, .mov (.tmp 0), none⟩,
        ⟨some 27, .call 89 [true, false] [.tmp 26, .const (.int .i64 4)], none⟩,
        ⟨some 28, .iaddr 1 (.tmp 25) (.tmp 27), none⟩,
        ⟨some 29, .load (.tmp 28) 1 false .plain, none⟩,
        ⟨some 30, .faddr (.tmp 5) 0, none⟩,
        ⟨none, .store (.tmp 30) (.tmp 29) 1, none⟩] [4, 5])
      (.seq (.region [
        ⟨some 32, .bin .eql (.tmp 9) (.const (.int .i64 1)), none⟩,
        ⟨some 31, .mov (.tmp 32), none⟩] [0, 4, 5, 9, 31])
      (.cond (.tmp 31)
        (.loud [
          ⟨some 33, .faddr (.tmp 5) 1, none⟩,
          ⟨some 34, .load (.tmp 33) 1 false .plain, none⟩,
          ⟨some 35, .bslice 1 [.str ⟨#[]⟩] 4 [(0, .const (.str ⟨#[]⟩)), (1, .const (.str ⟨#[122, 122]⟩)), (2, .const (.str ⟨#[105, 112]⟩)), (3, .const (.str ⟨#[42]⟩))], none⟩,
          ⟨some 36, .mov (.tmp 0), none⟩,
          ⟨some 37, .call 89 [true, false] [.tmp 36, .const (.int .i64 4)], none⟩,
          ⟨some 38, .iaddr 1 (.tmp 35) (.tmp 37), none⟩,
          ⟨some 39, .load (.tmp 38) 1 false .plain, none⟩,
          ⟨some 40, .bslice 1 [.str ⟨#[]⟩] 2 [(0, .const (.str ⟨#[]⟩)), (1, .const (.str ⟨#[97]⟩))], none⟩,
          ⟨some 41, .mov (.tmp 0), none⟩,
          ⟨some 42, .call 89 [true, false] [.tmp 41, .const (.int .i64 2)], none⟩,
          ⟨some 43, .iaddr 1 (.tmp 40) (.tmp 42), none⟩,
          ⟨some 44, .load (.tmp 43) 1 false .plain, none⟩,
          ⟨some 45, .mov (.tmp 0), none⟩,
          ⟨some 46, .call 89 [true, false] [.tmp 45, .const (.int .i64 3)], none⟩,
          ⟨some 47, .bin .sub (.tmp 46) (.const (.int .i64 1)), none⟩,
          ⟨some 48, .mov (.tmp 0), none⟩,
          ⟨some 49, .call 89 [true, false] [.tmp 48, .const (.int .i64 200)], none⟩,
          ⟨some 50, .build [.str ⟨#[]⟩, .str ⟨#[]⟩, .str ⟨#[]⟩, .int .i64 0, .int .i64 0] [(0, 1, .tmp 39), (1, 1, .tmp 44), (2, 1, .const (.str ⟨#[99]⟩)), (3, 1, .tmp 47), (4, 1, .tmp 49)], none⟩,
          ⟨some 51, .bslice 5 [.str ⟨#[]⟩, .str ⟨#[]⟩, .str ⟨#[]⟩, .int .i64 0, .int .i64 0] 1 [(0, .tmp 50)], none⟩,
          ⟨some 52, .append 5 64 true (.tmp 34) (.tmp 51), none⟩,
          ⟨some 53, .faddr (.tmp 5) 1, none⟩,
          ⟨none, .store (.tmp 53) (.tmp 52) 1, none⟩] [0, 1, 0, 0, 8, 28, 60, 0, 0, 280, 920, 1944, 0, 4888, 13080, 0, 45848, 131068, 262140, 524287, 1048575, 2097151] [4, 5])
        (.seq (.region [
          ⟨some 55, .bin .eql (.tmp 9) (.const (.int .i64 2)), none⟩,
          ⟨some 54, .mov (.tmp 55), none⟩] [0, 4, 5, 9, 54])
        (.cond (.tmp 54)
          (.seq (.region [
            ⟨some 56, .faddr (.tmp 5) 1, none⟩,
            ⟨some 57, .load (.tmp 56) 1 false .plain, none⟩,
            ⟨some 58, .len false (.tmp 57), none⟩,
            ⟨some 59, .bin .gtr (.tmp 58) (.const (.int .i64 0)), none⟩] [0, 4, 5, 59])
          (.cond (.tmp 59)
            (.loud [
              ⟨some 60, .faddr (.tmp 5) 1, none⟩,
              ⟨some 61, .load (.tmp 60) 1 false .plain, none⟩,
              ⟨some 62, .faddr (.tmp 5) 0, none⟩,
              ⟨some 63, .load (.tmp 62) 1 false .plain, none⟩,
              ⟨some 64, .bin .add (.tmp 63) (.const (.int .i64 32)), none⟩,
              ⟨some 65, .faddr (.tmp 5) 0, none⟩,
              ⟨some 66, .load (.tmp 65) 1 false .plain, none⟩,
              ⟨some 67, .bin .add (.tmp 66) (.const (.int .i64 32)), none⟩,
              ⟨some 68, .bin .add (.tmp 67) (.const (.int .i64 1)), none⟩,
              ⟨some 69, .bslice 1 [.int .i64 0] 3 [(0, .const (.int .i64 (-1))), (1, .tmp 64), (2, .tmp 68)], none⟩,
              ⟨some 70, .mov (.tmp 0), none⟩,
              ⟨some 71, .call 89 [true, false] [.tmp 70, .const (.int .i64 3)], none⟩,
              ⟨some 72, .iaddr 1 (.tmp 69) (.tmp 71), none⟩,
              ⟨some 73, .load (.tmp 72) 1 false .plain, none⟩,
              ⟨some 74, .iaddr 5 (.tmp 61) (.const (.int .i64 0)), none⟩,
              ⟨some 75, .faddr (.tmp 74) 4, none⟩,
              ⟨none, .store (.tmp 75) (.tmp 73) 1, none⟩] [0, 1, 0, 4, 12, 0, 32, 96, 224, 508, 0, 1024, 4092, 8188, 16383, 32767, 65535] [4, 5])
            .skip))
          (.seq (.region [
            ⟨some 77, .bin .eql (.tmp 9) (.const (.int .i64 3)), none⟩,
            ⟨some 76, .mov (.tmp 77), none⟩] [0, 4, 5, 9, 76])
          (.cond (.tmp 76)
            (.loud [
              ⟨some 78, .faddr (.tmp 5) 2, none⟩,
              ⟨some 79, .load (.tmp 78) 1 false .plain, none⟩,
              ⟨some 80, .bslice 1 [.str ⟨#[]⟩] 3 [(0, .const (.str ⟨#[]⟩)), (1, .const (.str ⟨#[122]⟩)), (2, .const (.str ⟨#[97]⟩))], none⟩,
              ⟨some 81, .mov (.tmp 0), none⟩,
              ⟨some 82, .call 89 [true, false] [.tmp 81, .const (.int .i64 3)], none⟩,
              ⟨some 83, .iaddr 1 (.tmp 80) (.tmp 82), none⟩,
              ⟨some 84, .load (.tmp 83) 1 false .plain, none⟩,
              ⟨some 85, .mov (.tmp 0), none⟩,
              ⟨some 86, .call 89 [true, false] [.tmp 85, .const (.int .i64 3)], none⟩,
              ⟨some 87, .mov (.tmp 0), none⟩,
              ⟨some 88, .call 145 [true] [.tmp 87], none⟩,
              ⟨some 89, .build [.str ⟨#[]⟩, .int .i64 0, .sl .own 7 []] [(0, 1, .tmp 84), (1, 1, .tmp 86), (2, 1, .tmp 88)], none⟩,
              ⟨some 90, .bslice 3 [.str ⟨#[]⟩, .int .i64 0, .sl .own 7 []] 1 [(0, .tmp 89)], none⟩,
              ⟨some 91, .append 3 48 false (.tmp 79) (.tmp 90), none⟩,
              ⟨some 92, .faddr (.tmp 5) 2, none⟩,
              ⟨none, .store (.tmp 92) (.tmp 91) 1, none⟩] [0, 1, 0, 0, 8, 28, 60, 0, 152, 0, 920, 2044, 4092, 8191, 16383, 32767] [4, 5])
            (.seq (.region [
              ⟨some 94, .bin .eql (.tmp 9) (.const (.int .i64 4)), none⟩,
              ⟨some 93, .mov (.tmp 94), none⟩] [0, 4, 5, 9, 93])
            (.cond (.tmp 93)
              (.seq (.region [
                ⟨some 95, .faddr (.tmp 5) 2, none⟩,
                ⟨some 96, .load (.tmp 95) 1 false .plain, none⟩,
                ⟨some 97, .len false (.tmp 96), none⟩,
                ⟨some 98, .bin .gtr (.tmp 97) (.const (.int .i64 0)), none⟩] [0, 4, 5, 98])
              (.cond (.tmp 98)
                (.loud [
                  ⟨some 99, .faddr (.tmp 5) 2, none⟩,
                  ⟨some 100, .load (.tmp 99) 1 false .plain, none⟩,
                  ⟨some 101, .bslice 1 [.int .i64 0] 3 [(0, .const (.int .i64 0)), (1, .const (.int .i64 1000000)), (2, .const (.int .i64 1000001))], none⟩,
                  ⟨some 102, .mov (.tmp 0), none⟩,
                  ⟨some 103, .call 89 [true, false] [.tmp 102, .const (.int .i64 3)], none⟩,
                  ⟨some 104, .iaddr 1 (.tmp 101) (.tmp 103), none⟩,
                  ⟨some 105, .load (.tmp 104) 1 false .plain, none⟩,
                  ⟨some 106, .iaddr 3 (.tmp 100) (.const (.int .i64 0)), none⟩,
                  ⟨some 107, .faddr (.tmp 106) 1, none⟩,
                  ⟨none, .store (.tmp 107) (.tmp 105) 1, none⟩] [0, 1, 0, 0, 8, 28, 60, 127, 255, 511] [4, 5])
                .skip))
              (.seq (.region [
                ⟨some 109, .bin .eql (.tmp 9) (.const (.int .i64 5)), none⟩,
                ⟨some 108, .mov (.tmp 109), none⟩] [0, 4, 5, 108])
              (.cond (.tmp 108)
                (.seq (.region [
                  ⟨some 110, .faddr (.tmp 5) 2, none⟩,
                  ⟨some 111, .load (.tmp 110) 1 false .plain, none⟩,
                  ⟨some 112, .len false (.tmp 111), none⟩,
                  ⟨some 113, .bin .gtr (.tmp 112) (.const (.int .i64 0)), none⟩,
                  ⟨some 114, .mov (.tmp 113), none⟩,
                  ⟨some 115, .faddr (.tmp 5) 2, some (114, true)⟩,
                  ⟨some 116, .load (.tmp 115) 1 false .plain, some (114, true)⟩,
                  ⟨some 117, .iaddr 3 (.tmp 116) (.const (.int .i64 0)), some (114, true)⟩,
                  ⟨some 118, .faddr (.tmp 117) 2, some (114, true)⟩,
                  ⟨some 119, .load (.tmp 118) 1 false .plain, some (114, true)⟩,
                  ⟨some 120, .len false (.tmp 119), some (114, true)⟩,
                  ⟨some 121, .bin .gtr (.tmp 120) (.const (.int .i64 0)), some (114, true)⟩,
                  ⟨some 122, .pick (.tmp 114) (.tmp 121) (.const (.bool false)), none⟩] [0, 4, 5, 122])
                (.cond (.tmp 122)
                  (.loud [
                    ⟨some 123, .faddr (.tmp 5) 2, none⟩,
                    ⟨some 124, .load (.tmp 123) 1 false .plain, none⟩,
                    ⟨some 125, .iaddr 3 (.tmp 124) (.const (.int .i64 0)), none⟩,
                    ⟨some 126, .faddr (.tmp 125) 2, none⟩,
                    ⟨some 127, .load (.tmp 126) 1 false .share, none⟩,
                    ⟨some 128, .mov (.tmp 0), none⟩,
                    ⟨some 129, .faddr (.tmp 5) 2, none⟩,
                    ⟨some 130, .load (.tmp 129) 1 false .plain, none⟩,
                    ⟨some 131, .iaddr 3 (.tmp 130) (.const (.int .i64 0)), none⟩,
                    ⟨some 132, .faddr (.tmp 131) 2, none⟩,
                    ⟨some 133, .load (.tmp 132) 1 false .plain, none⟩,
                    ⟨some 134, .iaddr 7 (.tmp 133) (.const (.int .i64 0)), none⟩,
                    ⟨some 135, .load (.tmp 134) 7 true .plain, none⟩,
                    ⟨some 136, .call 144 [true, false] [.tmp 128, .tmp 135], none⟩,
                    ⟨some 137, .iaddr 7 (.tmp 127) (.const (.int .i64 0)), none⟩,
                    ⟨none, .store (.tmp 137) (.tmp 136) 7, none⟩] [0, 1, 3, 7, 15, 0, 0, 64, 192, 448, 960, 1984, 4032, 8160, 16383, 32767] [4, 5])
                  .skip))
                (.seq (.region [
                  ⟨some 10, .faddr (.tmp 5) 2, none⟩,
                  ⟨some 11, .load (.tmp 10) 1 false .plain, none⟩,
                  ⟨some 12, .len false (.tmp 11), none⟩,
                  ⟨some 13, .bin .gtr (.tmp 12) (.const (.int .i64 1)), none⟩] [4, 5, 13])
                (.cond (.tmp 13)
                  (.loud [
                    ⟨some 14, .faddr (.tmp 5) 2, none⟩,
                    ⟨some 15, .load (.tmp 14) 1 false .plain, none⟩,
                    ⟨some 16, .faddr (.tmp 5) 2, none⟩,
                    ⟨some 17, .load (.tmp 16) 1 false .plain, none⟩,
                    ⟨some 18, .iaddr 3 (.tmp 17) (.const (.int .i64 0)), none⟩,
                    ⟨some 19, .faddr (.tmp 18) 2, none⟩,
                    ⟨some 20, .load (.tmp 19) 1 false .freeze, none⟩,
                    ⟨some 21, .iaddr 3 (.tmp 15) (.const (.int .i64 1)), none⟩,
                    ⟨some 22, .faddr (.tmp 21) 2, none⟩,
                    ⟨none, .store (.tmp 22) (.tmp 20) 1, none⟩] [0, 1, 0, 4, 12, 28, 60, 127, 255, 511] [4, 5])
                  .skip))))))))))))))))
  (.seq (.region [
    ⟨some 138, .load (.tmp 5) 3 true .plain, none⟩,
    ⟨none, .store (.tmp 4) (.tmp 138) 3, none⟩] [4])
  .ret))))⟩
-- spec.l6Draw
def c158b0 : CCode := (.seq (.seq (.region [
    ⟨some 15, .mov (.tmp 4), none⟩,
    ⟨some 16, .bin .lss (.tmp 15) (.const (.int .i64 3)), none⟩] [0, 2, 3, 4, 16])
  (.cond (.tmp 16)
    .skip
    (.exit 0)))
  (.seq (.block 1
    (.seq (.region [
      ⟨some 19, .mov (.tmp 0), none⟩,
      ⟨some 20, .call 89 [true, false] [.tmp 19, .const (.int .i64 4)], none⟩,
      ⟨some 21, .bin .gtr (.tmp 20) (.const (.int .i64 0)), none⟩] [0, 2, 3, 4, 21])
    (.cond (.tmp 21)
      (.seq (.loud [
        ⟨some 23, .load (.tmp 3) 3 true .plain, none⟩,
        ⟨some 24, .bslice 1 [.str ⟨#[]⟩] 3 [(0, .const (.str ⟨#[97]⟩)), (1, .const (.str ⟨#[98]⟩)), (2, .const (.str ⟨#[100]⟩))], none⟩,
        ⟨some 25, .mov (.tmp 4), none⟩,
        ⟨some 26, .iaddr 1 (.tmp 24) (.tmp 25), none⟩,
        ⟨some 27, .load (.tmp 26) 1 false .plain, none⟩,
        ⟨some 28, .mov (.tmp 0), none⟩,
        ⟨some 29, .call 145 [true] [.tmp 28], none⟩,
        ⟨some 30, .call 72 [false, false, false] [.tmp 23, .tmp 27, .tmp 29], none⟩,
        ⟨some 22, .mov (.tmp 30), none⟩,
        ⟨some 31, .ext (.tmp 22) 0, none⟩,
        ⟨some 32, .ext (.tmp 22) 1, none⟩,
        ⟨some 5, .alloc [.int .i64 0, .sl .own 5 [], .sl .own 3 []], none⟩,
        ⟨none, .store (.tmp 5) (.tmp 31) 3, none⟩,
        ⟨some 6, .mov (.tmp 32), none⟩] [0, 0, 0, 6, 14, 0, 32, 127, 255, 511, 511, 0, 3071, 8191] [0, 2, 3, 4, 5, 6])
      (.seq (.region [
        ⟨some 33, .mov (.tmp 6), none⟩,
        ⟨some 34, .bin .eql (.tmp 33) (.const (.int .i64 0)), none⟩] [0, 2, 3, 4, 5, 34])
      (.cond (.tmp 34)
        (.region [
          ⟨some 35, .load (.tmp 5) 3 true .plain, none⟩,
          ⟨none, .store (.tmp 3) (.tmp 35) 3, none⟩] [0, 2, 3, 4])
        .skip)))
      .skip)))
  (.region [
    ⟨some 17, .mov (.tmp 4), none⟩,
    ⟨some 18, .bin .add (.tmp 17) (.const (.int .i64 1)), none⟩,
    ⟨some 4, .mov (.tmp 18), none⟩] [0, 2, 3, 4])))
def c158b1 : CCode := (.seq (.seq (.region [
    ⟨some 36, .mov (.tmp 7), none⟩,
    ⟨some 37, .bin .lss (.tmp 36) (.const (.int .i64 3)), none⟩] [0, 2, 3, 7, 37])
  (.cond (.tmp 37)
    .skip
    (.exit 2)))
  (.seq (.block 3
    (.seq (.region [
      ⟨some 40, .mov (.tmp 0), none⟩,
      ⟨some 41, .call 89 [true, false] [.tmp 40, .const (.int .i64 2)], none⟩,
      ⟨some 42, .bin .eql (.tmp 41) (.const (.int .i64 0)), none⟩] [0, 2, 3, 7, 42])
    (.cond (.tmp 42)
      (.loud [
        ⟨some 43, .faddr (.tmp 3) 1, none⟩,
        ⟨some 44, .load (.tmp 43) 1 false .plain, none⟩,
        ⟨some 45, .bslice 1 [.str ⟨#[]⟩] 3 [(0, .const (.str ⟨#[105, 112]⟩)), (1, .const (.str ⟨#[118, 111, 108]⟩)), (2, .const (.str ⟨#[118, 111, 108, 50]⟩))], none⟩,
        ⟨some 46, .mov (.tmp 7), none⟩,
        ⟨some 47, .iaddr 1 (.tmp 45) (.tmp 46), none⟩,
        ⟨some 48, .load (.tmp 47) 1 false .plain, none⟩,
        ⟨some 49, .bslice 1 [.str ⟨#[]⟩] 2 [(0, .const (.str ⟨#[97]⟩)), (1, .const (.str ⟨#[98]⟩))], none⟩,
        ⟨some 50, .mov (.tmp 0), none⟩,
        ⟨some 51, .call 89 [true, false] [.tmp 50, .const (.int .i64 2)], none⟩,
        ⟨some 52, .iaddr 1 (.tmp 49) (.tmp 51), none⟩,
        ⟨some 53, .load (.tmp 52) 1 false .plain, none⟩,
        ⟨some 54, .mov (.tmp 0), none⟩,
        ⟨some 55, .call 89 [true, false] [.tmp 54, .const (.int .i64 4)], none⟩,
        ⟨some 56, .call 140 [false] [.tmp 55], none⟩,
        ⟨some 57, .bin .add (.const (.str ⟨#[99]⟩)) (.tmp 56), none⟩,
        ⟨some 58, .mov (.tmp 0), none⟩,
        ⟨some 59, .call 89 [true, false] [.tmp 58, .const (.int .i64 40)], none⟩,
        ⟨some 60, .mov (.tmp 0), none⟩,
        ⟨some 61, .faddr (.tmp 3) 0, none⟩,
        ⟨some 62, .load (.tmp 61) 1 false .plain, none⟩,
        ⟨some 63, .bin .add (.tmp 62) (.const (.int .i64 32)), none⟩,
        ⟨some 64, .bin .add (.tmp 63) (.const (.int .i64 1)), none⟩,
        ⟨some 65, .call 89 [true, false] [.tmp 60, .tmp 64], none⟩,
        ⟨some 66, .build [.str ⟨#[]⟩, .str ⟨#[]⟩, .str ⟨#[]⟩, .int .i64 0, .int .i64 0] [(0, 1, .tmp 48), (1, 1, .tmp 53), (2, 1, .tmp 57), (3, 1, .tmp 59), (4, 1, .tmp 65)], none⟩,
        ⟨some 67, .bslice 5 [.str ⟨#[]⟩, .str ⟨#[]⟩, .str ⟨#[]⟩, .int .i64 0, .int .i64 0] 1 [(0, .tmp 66)], none⟩,
        ⟨some 68, .append 5 64 true (.tmp 44) (.tmp 67), none⟩,
        ⟨some 69, .faddr (.tmp 3) 1, none⟩,
        ⟨none, .store (.tmp 69) (.tmp 68) 1, none⟩] [0, 1, 0, 0, 12, 28, 0, 0, 128, 448, 960, 0, 2432, 6528, 14720, 0, 47488, 0, 0, 262144, 786432, 1835008, 4176256, 8388604, 16777212, 33554431, 67108863, 134217727] [0, 2, 3, 7])
      .skip)))
  (.region [
    ⟨some 38, .mov (.tmp 7), none⟩,
    ⟨some 39, .bin .add (.tmp 38) (.const (.int .i64 1)), none⟩,
    ⟨some 7, .mov (.tmp 39), none⟩] [0, 2, 3, 7])))
def c158b2 : CCode := (.seq (.seq (.region [
    ⟨some 89, .mov (.tmp 10), none⟩,
    ⟨some 90, .faddr (.tmp 3) 2, none⟩,
    ⟨some 91, .load (.tmp 90) 1 false .plain, none⟩,
    ⟨some 92, .mov (.tmp 9), none⟩,
    ⟨some 93, .iaddr 3 (.tmp 91) (.tmp 92), none⟩,
    ⟨some 94, .faddr (.tmp 93) 2, none⟩,
    ⟨some 95, .load (.tmp 94) 1 false .plain, none⟩,
    ⟨some 96, .len false (.tmp 95), none⟩,
    ⟨some 97, .bin .lss (.tmp 89) (.tmp 96), none⟩] [0, 2, 3, 8, 9, 10, 97])
  (.cond (.tmp 97)
    .skip
    (.exit 8)))
  (.seq (.block 9
    (.seq (.quiet [
      ⟨some 100, .faddr (.tmp 3) 2, none⟩,
      ⟨some 101, .load (.tmp 100) 1 false .plain, none⟩,
      ⟨some 102, .mov (.tmp 9), none⟩,
      ⟨some 103, .iaddr 3 (.tmp 101) (.tmp 102), none⟩,
      ⟨some 104, .faddr (.tmp 103) 2, none⟩,
      ⟨some 105, .load (.tmp 104) 1 false .plain, none⟩,
      ⟨some 106, .mov (.tmp 10), none⟩,
      ⟨some 107, .iaddr 7 (.tmp 105) (.tmp 106), none⟩,
      ⟨some 108, .faddr (.tmp 107) 2, none⟩,
      ⟨some 109, .load (.tmp 108) 1 false .plain, none⟩,
      ⟨some 110, .faddr (.tmp 3) 1, none⟩,
      ⟨some 111, .load (.tmp 110) 1 false .plain, none⟩,
      ⟨some 112, .mov (.tmp 8), none⟩,
      ⟨some 113, .iaddr 5 (.tmp 111) (.tmp 112), none⟩,
      ⟨some 114, .faddr (.tmp 113) 0, none⟩,
      ⟨some 115, .load (.tmp 114) 1 false .plain, none⟩,
      ⟨some 116, .bin .eql (.tmp 109) (.tmp 115), none⟩] [0, 2, 3, 8, 9, 10, 116])
    (.cond (.tmp 116)
      (.seq (.loud [
        ⟨some 117, .faddr (.tmp 3) 1, none⟩,
        ⟨some 118, .load (.tmp 117) 1 false .plain, none⟩,
        ⟨some 119, .mov (.tmp 8), none⟩,
        ⟨some 120, .faddr (.tmp 3) 2, none⟩,
        ⟨some 121, .load (.tmp 120) 1 false .plain, none⟩,
        ⟨some 122, .mov (.tmp 9), none⟩,
        ⟨some 123, .iaddr 3 (.tmp 121) (.tmp 122), none⟩,
        ⟨some 124, .faddr (.tmp 123) 0, none⟩,
        ⟨some 125, .load (.tmp 124) 1 false .plain, none⟩,
        ⟨some 126, .iaddr 5 (.tmp 118) (.tmp 119), none⟩,
        ⟨some 127, .faddr (.tmp 126) 1, none⟩,
        ⟨none, .store (.tmp 127) (.tmp 125) 1, none⟩] [0, 1, 0, 0, 8, 0, 56, 120, 248, 511, 1023, 2047] [0, 2, 3, 8, 9, 10])
      (.loud [
        ⟨some 128, .faddr (.tmp 3) 1, none⟩,
        ⟨some 129, .load (.tmp 128) 1 false .plain, none⟩,
        ⟨some 130, .mov (.tmp 8), none⟩,
        ⟨some 131, .faddr (.tmp 3) 2, none⟩,
        ⟨some 132, .load (.tmp 131) 1 false .plain, none⟩,
        ⟨some 133, .mov (.tmp 9), none⟩,
        ⟨some 134, .iaddr 3 (.tmp 132) (.tmp 133), none⟩,
        ⟨some 135, .faddr (.tmp 134) 2, none⟩,
        ⟨some 136, .load (.tmp 135) 1 false .plain, none⟩,
        ⟨some 137, .mov (.tmp 10), none⟩,
        ⟨some 138, .iaddr 7 (.tmp 136) (.tmp 137), none⟩,
        ⟨some 139, .faddr (.tmp 138) 0, none⟩,
        ⟨some 140, .load (.tmp 139) 1 false .plain, none⟩,
        ⟨some 141, .iaddr 5 (.tmp 129) (.tmp 130), none⟩,
        ⟨some 142, .faddr (.tmp 141) 2, none⟩,
        ⟨none, .store (.tmp 142) (.tmp 140) 1, none⟩] [0, 1, 0, 0, 8, 0, 56, 120, 248, 0, 1016, 2040, 4088, 8191, 16383, 32767] [0, 2, 3, 8, 9, 10]))
      .skip)))
  (.region [
    ⟨some 98, .mov (.tmp 10), none⟩,
    ⟨some 99, .bin .add (.tmp 98) (.const (.int .i64 1)), none⟩,
    ⟨some 10, .mov (.tmp 99), none⟩] [0, 2, 3, 8, 9, 10])))
def c158b3 : CCode := (.seq (.seq (.region [
    ⟨some 77, .mov (.tmp 9), none⟩,
    ⟨some 78, .faddr (.tmp 3) 2, none⟩,
    ⟨some 79, .load (.tmp 78) 1 false .plain, none⟩,
    ⟨some 80, .len false (.tmp 79), none⟩,
    ⟨some 81, .bin .lss (.tmp 77) (.tmp 80), none⟩,
    ⟨some 82, .mov (.tmp 81), none⟩,
    ⟨some 83, .mov (.tmp 0), some (82, true)⟩,
    ⟨some 84, .call 89 [true, false] [.tmp 83, .const (.int .i64 4)], some (82, true)⟩,
    ⟨some 85, .bin .gtr (.tmp 84) (.const (.int .i64 0)), some (82, true)⟩,
    ⟨some 86, .pick (.tmp 82) (.tmp 85) (.const (.bool false)), none⟩] [0, 2, 3, 8, 9, 86])
  (.cond (.tmp 86)
    .skip
    (.exit 6)))
  (.seq (.block 7
    (.seq (.region [
      ⟨some 10, .mov (.const (.int .i64 0)), none⟩] [0, 2, 3, 8, 9, 10])
    (.block 8
      (.loop [0, 2, 3, 8, 9, 10] c158b2))))
  (.region [
    ⟨some 87, .mov (.tmp 9), none⟩,
    ⟨some 88, .bin .add (.tmp 87) (.const (.int .i64 1)), none⟩,
    ⟨some 9, .mov (.tmp 88), none⟩] [0, 2, 3, 8, 9])))
def c158b4 : CCode := (.seq (.seq (.region [
    ⟨some 70, .mov (.tmp 8), none⟩,
    ⟨some 71, .faddr (.tmp 3) 1, none⟩,
    ⟨some 72, .load (.tmp 71) 1 false .plain, none⟩,
    ⟨some 73, .len false (.tmp 72), none⟩,
    ⟨some 74, .bin .lss (.tmp 70) (.tmp 73), none⟩] [0, 2, 3, 8, 74])
  (.cond (.tmp 74)
    .skip
    (.exit 4)))
  (.seq (.block 5
    (.seq (.region [
      ⟨some 9, .mov (.const (.int .i64 0)), none⟩] [0, 2, 3, 8, 9])
    (.block 6
      (.loop [0, 2, 3, 8, 9] c158b3))))
  (.region [
    ⟨some 75, .mov (.tmp 8), none⟩,
    ⟨some 76, .bin .add (.tmp 75) (.const (.int .i64 1)), none⟩,
    ⟨some 8, .mov (.tmp 76), none⟩] [0, 2, 3, 8])))
def c158 : CFn := ⟨144, [.cell 2 3 true],
  (.seq (.region [
    ⟨some 2, .alloc [.int .i64 0, .sl .own 5 [], .sl .own 3 []], none⟩] [0, 2])
  (.seq (.region [
    ⟨some 11, .mov (.tmp 0), none⟩,
    ⟨some 12, .call 89 [true, false] [.tmp 11, .const (.int .i64 40)], none⟩,
    ⟨some 13, .bin .mul (.const (.int .i64 2)) (.tmp 12), none⟩,
    ⟨some 14, .build [.int .i64 0, .sl .own 5 [], .sl .own 3 []] [(0, 1, .tmp 13)], none⟩,
    ⟨some 3, .alloc [.int .i64 0, .sl .own 5 [], .sl .own 3 []], none⟩,
    ⟨none, .store (.tmp 3) (.tmp 14) 3, none⟩] [0, 2, 3])
  (.seq (.seq (.region [
    ⟨some 4, .mov (.const (.int .i64 0)), none⟩] [0, 2, 3, 4])
  (.block 0
    (.loop [0, 2, 3, 4] c158b0)))
  (.seq (.seq (.region [
    ⟨some 7, .mov (.const (.int .i64 0)), none⟩] [0, 2, 3, 7])
  (.block 2
    (.loop [0, 2, 3, 7] c158b1)))
  (.seq (.seq (.region [
    ⟨some 8, .mov (.const (.int .i64 0)), none⟩] [0, 2, 3, 8])
  (.block 4
    (.loop [0, 2, 3, 8] c158b4)))
  (.seq (.region [
    ⟨some 143, .load (.tmp 3) 3 true .plain, none⟩,
    ⟨none, .store (.tmp 2) (.tmp 143) 3, none⟩] [2])
  .ret))))))⟩
-- spec.l6Wants
def c159b0 : CCode := (.seq (.seq (.region [
    ⟨some 19, .mov (.tmp 10), none⟩,
    ⟨some 20, .faddr (.tmp 4) 2, none⟩,
    ⟨some 21, .load (.tmp 20) 1 false .plain, none⟩,
    ⟨some 22, .mov (.tmp 9), none⟩,
    ⟨some 23, .iaddr 3 (.tmp 21) (.tmp 22), none⟩,
    ⟨some 24, .faddr (.tmp 23) 2, none⟩,
    ⟨some 25, .load (.tmp 24) 1 false .plain, none⟩,
    ⟨some 26, .len false (.tmp 25), none⟩,
    ⟨some 27, .bin .lss (.tmp 19) (.tmp 26), none⟩] [1, 2, 3, 4, 9, 10, 27])
  (.cond (.tmp 27)
    .skip
    (.exit 2)))
  (.seq (.block 3
    (.seq (.region [
      ⟨some 30, .faddr (.tmp 4) 2, none⟩,
      ⟨some 31, .load (.tmp 30) 1 false .plain, none⟩,
      ⟨some 32, .mov (.tmp 9), none⟩,
      ⟨some 33, .iaddr 3 (.tmp 31) (.tmp 32), none⟩,
      ⟨some 34, .faddr (.tmp 33) 2, none⟩,
      ⟨some 35, .load (.tmp 34) 1 false .plain, none⟩,
      ⟨some 36, .mov (.tmp 10), none⟩,
      ⟨some 37, .iaddr 7 (.tmp 35) (.tmp 36), none⟩,
      ⟨some 38, .load (.tmp 37) 7 true .plain, none⟩,
      ⟨some 11, .alloc [.str ⟨#[]⟩, .int .i64 0, .str ⟨#[]⟩, .int .i64 0, .int .i64 0, .int .i64 0, .int .i64 0], none⟩,
      ⟨none, .store (.tmp 11) (.tmp 38) 7, none⟩] [1, 2, 3, 4, 9, 10, 11])
    (.seq (.region [
      ⟨some 39, .faddr (.tmp 4) 2, none⟩,
      ⟨some 40, .load (.tmp 39) 1 false .plain, none⟩,
      ⟨some 41, .mov (.tmp 9), none⟩,
      ⟨some 42, .iaddr 3 (.tmp 40) (.tmp 41), none⟩,
      ⟨some 43, .faddr (.tmp 42) 0, none⟩,
      ⟨some 44, .load (.tmp 43) 1 false .plain, none⟩,
      ⟨some 45, .mov (.tmp 1), none⟩,
      ⟨some 46, .bin .eql (.tmp 44) (.tmp 45), none⟩,
      ⟨some 47, .mov (.tmp 46), none⟩,
      ⟨some 48, .faddr (.tmp 11) 0, some (47, true)⟩,
      ⟨some 49, .load (.tmp 48) 1 false .plain, some (47, true)⟩,
      ⟨some 50, .mov (.tmp 2), some (47, true)⟩,
      ⟨some 51, .bin .eql (.tmp 49) (.tmp 50), some (47, true)⟩,
      ⟨some 52, .pick (.tmp 47) (.tmp 51) (.const (.bool false)), none⟩,
      ⟨some 53, .mov (.tmp 52), none⟩,
      ⟨some 54, .faddr (.tmp 11) 2, some (53, true)⟩,
      ⟨some 55, .load (.tmp 54) 1 false .plain, some (53, true)⟩,
      ⟨some 56, .mov (.tmp 3), some (53, true)⟩,
      ⟨some 57, .bin .eql (.tmp 55) (.tmp 56), some (53, true)⟩,
      ⟨some 58, .pick (.tmp 53) (.tmp 57) (.const (.bool false)), none⟩] [1, 2, 3, 4, 9, 10, 58])
    (.cond (.tmp 58)
      (.seq (.region [
        ⟨some 8, .mov (.const (.bool true)), none⟩] [8])
      .ret)
      .skip))))
  (.region [
    ⟨some 28, .mov (.tmp 10), none⟩,
    ⟨some 29, .bin .add (.tmp 28) (.const (.int .i64 1)), none⟩,
    ⟨some 10, .mov (.tmp 29), none⟩] [1, 2, 3, 4, 9, 10])))
def c159b1 : CCode := (.seq (.seq (.region [
    ⟨some 12, .mov (.tmp 9), none⟩,
    ⟨some 13, .faddr (.tmp 4) 2, none⟩,
    ⟨some 14, .load (.tmp 13) 1 false .plain, none⟩,
    ⟨some 15, .len false (.tmp 14), none⟩,
    ⟨some 16, .bin .lss (.tmp 12) (.tmp 15), none⟩] [1, 2, 3, 4, 9, 16])
  (.cond (.tmp 16)
    .skip
    (.exit 0)))
  (.seq (.block 1
    (.seq (.region [
      ⟨some 10, .mov (.const (.int .i64 0)), none⟩] [1, 2, 3, 4, 9, 10])
    (.block 2
      (.loop [1, 2, 3, 4, 9, 10] c159b0))))
  (.region [
    ⟨some 17, .mov (.tmp 9), none⟩,
    ⟨some 18, .bin .add (.tmp 17) (.const (.int .i64 1)), none⟩,
    ⟨some 9, .mov (.tmp 18), none⟩] [1, 2, 3, 4, 9])))
def c159 : CFn := ⟨59, [.tmp 8],
  (.seq (.region [
    ⟨some 4, .box (.tmp 0), none⟩,
    ⟨some 8, .mov (.const (.bool false)), none⟩] [1, 2, 3, 4])
  (.seq (.seq (.region [
    ⟨some 9, .mov (.const (.int .i64 0)), none⟩] [1, 2, 3, 4, 9])
  (.block 0
    (.loop [1, 2, 3, 4, 9] c159b1)))
  (.seq (.region [
    ⟨some 8, .mov (.const (.bool false)), none⟩] [8])
  .ret)))⟩
-- spec.l1Many
def c160b0 : CCode := (.seq (.seq (.region [
    ⟨some 6, .mov (.tmp 1), none⟩,
    ⟨some 7, .bin .gtr (.tmp 6) (.const (.int .i64 0)), none⟩] [0, 1, 5, 7])
  (.cond (.tmp 7)
    .skip
    (.exit 0)))
  (.block 1
    (.seq (.seq (.region [
      ⟨some 8, .mov (.tmp 1), none⟩,
      ⟨some 9, .bin .rem (.tmp 8) (.const (.int .i64 2)), none⟩,
      ⟨some 10, .bin .eql (.tmp 9) (.const (.int .i64 1)), none⟩] [0, 1, 5, 10])
    (.cond (.tmp 10)
      (.region [
        ⟨some 11, .mov (.tmp 5), none⟩,
        ⟨some 12, .mov (.tmp 0), none⟩,
        ⟨some 13, .bin .add (.tmp 11) (.tmp 12), none⟩,
        ⟨some 5, .mov (.tmp 13), none⟩] [0, 1, 5])
      .skip))
    (.seq (.region [
      ⟨some 14, .mov (.tmp 0), none⟩,
      ⟨some 15, .mov (.tmp 0), none⟩,
      ⟨some 16, .bin .add (.tmp 14) (.tmp 15), none⟩,
      ⟨some 0, .mov (.tmp 16), none⟩] [0, 1, 5])
    (.region [
      ⟨some 17, .mov (.tmp 1), none⟩,
      ⟨some 18, .bin .quo (.tmp 17) (.const (.int .i64 2)), none⟩,
      ⟨some 1, .mov (.tmp 18), none⟩] [0, 1, 5])))))
def c160 : CFn := ⟨20, [.tmp 4],
  (.seq (.region [
    ⟨some 4, .mov (.const (.str ⟨#[]⟩)), none⟩] [0, 1])
  (.seq (.region [
    ⟨some 5, .mov (.const (.str ⟨#[]⟩)), none⟩] [0, 1, 5])
  (.seq (.block 0
    (.loop [0, 1, 5] c160b0))
  (.seq (.region [
    ⟨some 19, .mov (.tmp 5), none⟩,
    ⟨some 4, .mov (.tmp 19), none⟩] [4])
  .ret))))⟩
-- laws.FnLand
def c181b0 : CCode := (.seq (.seq (.region [
    ⟨some 125, .mov (.tmp 17), none⟩,
    ⟨some 126, .faddr (.tmp 5) 1, none⟩,
    ⟨some 127, .load (.tmp 126) 1 false .plain, none⟩,
    ⟨some 128, .len false (.tmp 127), none⟩,
    ⟨some 129, .bin .lss (.tmp 125) (.tmp 128), none⟩] [0, 3, 5, 15, 16, 17, 129])
  (.cond (.tmp 129)
    .skip
    (.exit 2)))
  (.seq (.block 3
    (.seq (.region [
      ⟨some 132, .faddr (.tmp 5) 1, none⟩,
      ⟨some 133, .load (.tmp 132) 1 false .plain, none⟩,
      ⟨some 134, .mov (.tmp 17), none⟩,
      ⟨some 135, .iaddr 5 (.tmp 133) (.tmp 134), none⟩,
      ⟨some 136, .load (.tmp 135) 5 true .plain, none⟩,
      ⟨some 18, .alloc [.str ⟨#[]⟩, .str ⟨#[]⟩, .str ⟨#[]⟩, .int .i64 0, .int .i64 0], none⟩,
      ⟨none, .store (.tmp 18) (.tmp 136) 5, none⟩] [0, 3, 5, 15, 16, 17, 18])
    (.seq (.region [
      ⟨some 137, .faddr (.tmp 18) 0, none⟩,
      ⟨some 138, .load (.tmp 137) 1 false .plain, none⟩,
      ⟨some 139, .faddr (.tmp 16) 0, none⟩,
      ⟨some 140, .load (.tmp 139) 1 false .plain, none⟩,
      ⟨some 141, .bin .eql (.tmp 138) (.tmp 140), none⟩,
      ⟨some 142, .mov (.tmp 141), none⟩,
      ⟨some 143, .faddr (.tmp 18) 1, some (142, true)⟩,
      ⟨some 144, .load (.tmp 143) 1 false .plain, some (142, true)⟩,
      ⟨some 145, .faddr (.tmp 16) 1, some (142, true)⟩,
      ⟨some 146, .load (.tmp 145) 1 false .plain, some (142, true)⟩,
      ⟨some 147, .bin .neq (.tmp 144) (.tmp 146), some (142, true)⟩,
      ⟨some 148, .mov (.tmp 147), some (142, true)⟩,
      ⟨some 149, .faddr (.tmp 18) 2, some (148, false)⟩,
      ⟨some 150, .load (.tmp 149) 1 false .plain, some (148, false)⟩,
      ⟨some 151, .faddr (.tmp 16) 2, some (148, false)⟩,
      ⟨some 152, .load (.tmp 151) 1 false .plain, some (148, false)⟩,
      ⟨some 153, .bin .neq (.tmp 150) (.tmp 152), some (148, false)⟩,
      ⟨some 154, .pick (.tmp 148) (.const (.bool true)) (.tmp 153), some (142, true)⟩,
      ⟨some 155, .pick (.tmp 142) (.tmp 154) (.const (.bool false)), none⟩,
      ⟨some 156, .mov (.tmp 155), none⟩,
      ⟨some 157, .faddr (.tmp 16) 4, some (156, true)⟩,
      ⟨some 158, .load (.tmp 157) 1 false .plain, some (156, true)⟩,
      ⟨some 159, .faddr (.tmp 3) 0, some (156, true)⟩,
      ⟨some 160, .load (.tmp 159) 1 false .plain, some (156, true)⟩,
      ⟨some 161, .bin .gtr (.tmp 158) (.tmp 160), some (156, true)⟩,
      ⟨some 162, .pick (.tmp 156) (.tmp 161) (.const (.bool false)), none⟩] [0, 3, 5, 15, 16, 17, 162])
    (.cond (.tmp 162)
      (.seq (.region [
        ⟨some 2, .mov (.const (.bool false)), none⟩] [2])
      .ret)
      .skip))))
  (.region [
    ⟨some 130, .mov (.tmp 17), none⟩,
    ⟨some 131, .bin .add (.tmp 130) (.const (.int .i64 1)), none⟩,
    ⟨some 17, .mov (.tmp 131), none⟩] [0, 3, 5, 15, 16, 17])))
def c181b1 : CCode := (.seq (.seq (.region [
    ⟨some 113, .mov (.tmp 15), none⟩,
    ⟨some 114, .faddr (.tmp 3) 1, none⟩,
    ⟨some 115, .load (.tmp 114) 1 false .plain, none⟩,
    ⟨some 116, .len false (.tmp 115), none⟩,
    ⟨some 117, .bin .lss (.tmp 113) (.tmp 116), none⟩] [0, 3, 5, 15, 117])
  (.cond (.tmp 117)
    .skip
    (.exit 0)))
  (.seq (.block 1
    (.seq (.region [
      ⟨some 120, .faddr (.tmp 3) 1, none⟩,
      ⟨some 121, .load (.tmp 120) 1 false .plain, none⟩,
      ⟨some 122, .mov (.tmp 15), none⟩,
      ⟨some 123, .iaddr 5 (.tmp 121) (.tmp 122), none⟩,
      ⟨some 124, .load (.tmp 123) 5 true .plain, none⟩,
      ⟨some 16, .alloc [.str ⟨#[]⟩, .str ⟨#[]⟩, .str ⟨#[]⟩, .int .i64 0, .int .i64 0], none⟩,
      ⟨none, .store (.tmp 16) (.tmp 124) 5, none⟩] [0, 3, 5, 15, 16])
    (.seq (.region [
      ⟨some 17, .mov (.const (.int .i64 0)), none⟩] [0, 3, 5, 15, 16, 17])
    (.block 2
      (.loop [0, 3, 5, 15, 16, 17] c181b0)))))
  (.region [
    ⟨some 118, .mov (.tmp 15), none⟩,
    ⟨some 119, .bin .add (.tmp 118) (.const (.int .i64 1)), none⟩,
    ⟨some 15, .mov (.tmp 119), none⟩] [0, 3, 5, 15])))
def c181 : CFn := ⟨199, [.tmp 2],
  (.seq (.region [
    ⟨some 2, .mov (.const (.bool false)), none⟩] [0])
  (.seq (.seq (.region [
    ⟨some 26, .mov (.tmp 0), none⟩,
    ⟨some 27, .len false (.tmp 26), none⟩,
    ⟨some 28, .bin .gtr (.tmp 27) (.const (.int .i64 1048576)), none⟩] [0, 28])
  (.cond (.tmp 28)
    (.seq (.region [
      ⟨some 2, .mov (.const (.bool true)), none⟩] [2])
    .ret)
    .skip))
  (.seq (.region [
    ⟨some 30, .mov (.tmp 0), none⟩,
    ⟨some 31, .call 78 [false] [.tmp 30], none⟩,
    ⟨some 29, .mov (.tmp 31), none⟩,
    ⟨some 32, .ext (.tmp 29) 0, none⟩,
    ⟨some 33, .ext (.tmp 29) 1, none⟩,
    ⟨some 3, .alloc [.int .i64 0, .sl .own 5 [], .sl .own 3 []], none⟩,
    ⟨some 4, .alloc [.int .i64 0, .str ⟨#[]⟩, .int .i64 0, .sl .own 7 [], .str ⟨#[]⟩, .str ⟨#[]⟩, .int .i64 0], none⟩,
    ⟨none, .store (.tmp 3) (.tmp 32) 3, none⟩,
    ⟨none, .store (.tmp 4) (.tmp 33) 7, none⟩] [0, 3, 4])
  (.seq (.region [
    ⟨some 35, .load (.tmp 3) 3 true .plain, none⟩,
    ⟨some 36, .load (.tmp 4) 7 true .plain, none⟩,
    ⟨some 37, .call 76 [false, false] [.tmp 35, .tmp 36], none⟩,
    ⟨some 34, .mov (.tmp 37), none⟩,
    ⟨some 38, .ext (.tmp 34) 0, none⟩,
    ⟨some 39, .ext (.tmp 34) 1, none⟩,
    ⟨some 5, .alloc [.int .i64 0, .sl .own 5 [], .sl .own 3 []], none⟩,
    ⟨none, .store (.tmp 5) (.tmp 38) 3, none⟩,
    ⟨some 6, .mov (.tmp 39), none⟩] [0, 3, 4, 5, 6])
  (.seq (.region [
    ⟨some 41, .load (.tmp 3) 3 true .plain, none⟩,
    ⟨some 42, .load (.tmp 4) 7 true .plain, none⟩,
    ⟨some 43, .call 77 [false, false] [.tmp 41, .tmp 42], none⟩,
    ⟨some 40, .mov (.tmp 43), none⟩,
    ⟨some 44, .ext (.tmp 40) 0, none⟩,
    ⟨some 45, .ext (.tmp 40) 1, none⟩,
    ⟨some 7, .alloc [.int .i64 0, .sl .own 5 [], .sl .own 3 []], none⟩,
    ⟨none, .store (.tmp 7) (.tmp 44) 3, none⟩,
    ⟨some 8, .mov (.tmp 45), none⟩] [0, 3, 4, 5, 6, 7, 8])
  (.seq (.seq (.region [
    ⟨some 46, .load (.tmp 5) 3 true .plain, none⟩,
    ⟨some 47, .load (.tmp 7) 3 true .plain, none⟩,
    ⟨some 48, .call 73 [false, false] [.tmp 46, .tmp 47], none⟩,
    ⟨some 49, .un .not (.tmp 48), none⟩,
    ⟨some 50, .mov (.tmp 49), none⟩,
    ⟨some 51, .mov (.tmp 6), some (50, false)⟩,
    ⟨some 52, .mov (.tmp 8), some (50, false)⟩,
    ⟨some 53, .call 75 [false, false] [.tmp 51, .tmp 52], some (50, false)⟩,
    ⟨some 54, .un .not (.tmp 53), some (50, false)⟩,
    ⟨some 55, .pick (.tmp 50) (.const (.bool true)) (.tmp 54), none⟩] [0, 3, 4, 5, 6, 55])
  (.cond (.tmp 55)
    (.seq (.region [
      ⟨some 2, .mov (.const (.bool false)), none⟩] [2])
    .ret)
    .skip))
  (.seq (.region [
    ⟨some 57, .load (.tmp 5) 3 true .plain, none⟩,
    ⟨some 58, .load (.tmp 4) 7 true .plain, none⟩,
    ⟨some 59, .call 76 [false, false] [.tmp 57, .tmp 58], none⟩,
    ⟨some 56, .mov (.tmp 59), none⟩,
    ⟨some 60, .ext (.tmp 56) 0, none⟩,
    ⟨some 61, .ext (.tmp 56) 1, none⟩,
    ⟨some 9, .alloc [.int .i64 0, .sl .own 5 [], .sl .own 3 []], none⟩,
    ⟨none, .store (.tmp 9) (.tmp 60) 3, none⟩,
    ⟨some 10, .mov (.tmp 61), none⟩] [0, 3, 5, 6, 9, 10])
  (.seq (.region [
    ⟨some 63, .load (.tmp 3) 3 true .plain, none⟩,
    ⟨some 64, .call 41 [false] [.tmp 63], none⟩,
    ⟨some 62, .mov (.tmp 64), none⟩,
    ⟨some 65, .ext (.tmp 62) 0, none⟩,
    ⟨some 66, .ext (.tmp 62) 1, none⟩,
    ⟨some 11, .alloc [.int .i64 0, .sl .own 5 [], .sl .own 3 []], none⟩,
    ⟨none, .store (.tmp 11) (.tmp 65) 3, none⟩,
    ⟨some 12, .mov (.tmp 66), none⟩] [0, 3, 5, 6, 9, 10, 11, 12])
  (.seq (.region [
    ⟨some 68, .load (.tmp 3) 3 true .plain, none⟩,
    ⟨some 69, .call 44 [false] [.tmp 68], none⟩,
    ⟨some 67, .mov (.tmp 69), none⟩,
    ⟨some 70, .ext (.tmp 67) 0, none⟩,
    ⟨some 71, .ext (.tmp 67) 1, none⟩,
    ⟨some 13, .alloc [.int .i64 0, .sl .own 5 [], .sl .own 3 []], none⟩,
    ⟨none, .store (.tmp 13) (.tmp 70) 3, none⟩,
    ⟨some 14, .mov (.tmp 71), none⟩] [0, 3, 5, 6, 9, 10, 11, 12, 13, 14])
  (.seq (.seq (.region [
    ⟨some 72, .load (.tmp 11) 3 true .plain, none⟩,
    ⟨some 73, .load (.tmp 13) 3 true .plain, none⟩,
    ⟨some 74, .call 73 [false, false] [.tmp 72, .tmp 73], none⟩,
    ⟨some 75, .un .not (.tmp 74), none⟩,
    ⟨some 76, .mov (.tmp 75), none⟩,
    ⟨some 77, .mov (.tmp 12), some (76, false)⟩,
    ⟨some 78, .mov (.tmp 14), some (76, false)⟩,
    ⟨some 79, .call 75 [false, false] [.tmp 77, .tmp 78], some (76, false)⟩,
    ⟨some 80, .un .not (.tmp 79), some (76, false)⟩,
    ⟨some 81, .pick (.tmp 76) (.const (.bool true)) (.tmp 80), none⟩] [0, 3, 5, 6, 9, 10, 11, 81])
  (.cond (.tmp 81)
    (.seq (.region [
      ⟨some 2, .mov (.const (.bool false)), none⟩] [2])
    .ret)
    .skip))
  (.seq (.seq (.region [
    ⟨some 82, .load (.tmp 3) 3 true .plain, none⟩,
    ⟨some 83, .call 24 [false] [.tmp 82], none⟩,
    ⟨some 84, .un .not (.tmp 83), none⟩] [0, 3, 5, 6, 9, 10, 11, 84])
  (.cond (.tmp 84)
    (.seq (.region [
      ⟨some 85, .mov (.tmp 6), none⟩,
      ⟨some 86, .len false (.tmp 85), none⟩,
      ⟨some 87, .bin .eql (.tmp 86) (.const (.int .i64 0)), none⟩,
      ⟨some 88, .mov (.tmp 87), none⟩,
      ⟨some 89, .load (.tmp 3) 3 true .plain, some (88, true)⟩,
      ⟨some 90, .call 23 [false] [.tmp 89], some (88, true)⟩,
      ⟨some 91, .un .not (.tmp 90), some (88, true)⟩,
      ⟨some 92, .pick (.tmp 88) (.tmp 91) (.const (.bool false)), none⟩,
      ⟨some 2, .mov (.tmp 92), none⟩] [2])
    .ret)
    .skip))
  (.seq (.seq (.region [
    ⟨some 93, .load (.tmp 9) 3 true .plain, none⟩,
    ⟨some 94, .load (.tmp 5) 3 true .plain, none⟩,
    ⟨some 95, .call 73 [false, false] [.tmp 93, .tmp 94], none⟩,
    ⟨some 96, .un .not (.tmp 95), none⟩,
    ⟨some 97, .mov (.tmp 96), none⟩,
    ⟨some 98, .mov (.tmp 10), some (97, false)⟩,
    ⟨some 99, .mov (.tmp 6), some (97, false)⟩,
    ⟨some 100, .call 75 [false, false] [.tmp 98, .tmp 99], some (97, false)⟩,
    ⟨some 101, .un .not (.tmp 100), some (97, false)⟩,
    ⟨some 102, .pick (.tmp 97) (.const (.bool true)) (.tmp 101), none⟩,
    ⟨some 103, .mov (.tmp 102), none⟩,
    ⟨some 104, .load (.tmp 5) 3 true .plain, some (103, false)⟩,
    ⟨some 105, .call 23 [false] [.tmp 104], some (103, false)⟩,
    ⟨some 106, .un .not (.tmp 105), some (103, false)⟩,
    ⟨some 107, .pick (.tmp 103) (.const (.bool true)) (.tmp 106), none⟩,
    ⟨some 108, .mov (.tmp 107), none⟩,
    ⟨some 109, .load (.tmp 11) 3 true .plain, some (108, false)⟩,
    ⟨some 110, .call 23 [false] [.tmp 109], some (108, false)⟩,
    ⟨some 111, .un .not (.tmp 110), some (108, false)⟩,
    ⟨some 112, .pick (.tmp 108) (.const (.bool true)) (.tmp 111), none⟩] [0, 3, 5, 112])
  (.cond (.tmp 112)
    (.seq (.region [
      ⟨some 2, .mov (.const (.bool false)), none⟩] [2])
    .ret)
    .skip))
  (.seq (.seq (.region [
    ⟨some 15, .mov (.const (.int .i64 0)), none⟩] [0, 3, 5, 15])
  (.block 0
    (.loop [0, 3, 5, 15] c181b1)))
  (.seq (.region [
    ⟨some 164, .mov (.tmp 0), none⟩,
    ⟨some 165, .call 74 [false] [.tmp 164], none⟩,
    ⟨some 163, .mov (.tmp 165), none⟩,
    ⟨some 166, .ext (.tmp 163) 0, none⟩,
    ⟨some 167, .ext (.tmp 163) 1, none⟩,
    ⟨some 168, .ext (.tmp 163) 2, none⟩,
    ⟨some 19, .alloc [.int .i64 0, .sl .own 5 [], .sl .own 3 []], none⟩,
    ⟨none, .store (.tmp 19) (.tmp 166) 3, none⟩,
    ⟨some 20, .mov (.tmp 167), none⟩,
    ⟨some 21, .mov (.tmp 168), none⟩] [19, 20, 21])
  (.seq (.region [
    ⟨some 170, .load (.tmp 19) 3 true .plain, none⟩,
    ⟨some 171, .mov (.tmp 20), none⟩,
    ⟨some 172, .mov (.tmp 21), none⟩,
    ⟨some 173, .call 70 [false, false, false] [.tmp 170, .tmp 171, .tmp 172], none⟩,
    ⟨some 169, .mov (.tmp 173), none⟩,
    ⟨some 174, .ext (.tmp 169) 0, none⟩,
    ⟨some 175, .ext (.tmp 169) 1, none⟩,
    ⟨some 22, .alloc [.int .i64 0, .sl .own 5 [], .sl .own 3 []], none⟩,
    ⟨none, .store (.tmp 22) (.tmp 174) 3, none⟩,
    ⟨some 23, .mov (.tmp 175), none⟩] [19, 20, 21, 22, 23])
  (.seq (.region [
    ⟨some 177, .load (.tmp 19) 3 true .plain, none⟩,
    ⟨some 178, .mov (.tmp 20), none⟩,
    ⟨some 179, .mov (.tmp 21), none⟩,
    ⟨some 180, .call 72 [false, false, false] [.tmp 177, .tmp 178, .tmp 179], none⟩,
    ⟨some 176, .mov (.tmp 180), none⟩,
    ⟨some 181, .ext (.tmp 176) 0, none⟩,
    ⟨some 182, .ext (.tmp 176) 1, none⟩,
    ⟨some 24, .alloc [.int .i64 0, .sl .own 5 [], .sl .own 3 []], none⟩,
    ⟨none, .store (.tmp 24) (.tmp 181) 3, none⟩,
    ⟨some 25, .mov (.tmp 182), none⟩] [22, 23, 24, 25])
  (.seq (.region [
    ⟨some 183, .mov (.tmp 23), none⟩,
    ⟨some 184, .mov (.tmp 25), none⟩,
    ⟨some 185, .bin .eql (.tmp 183) (.tmp 184), none⟩,
    ⟨some 186, .mov (.tmp 185), none⟩,
    ⟨some 187, .load (.tmp 22) 3 true .plain, some (186, true)⟩,
    ⟨some 188, .load (.tmp 24) 3 true .plain, some (186, true)⟩,
    ⟨some 189, .call 73 [false, false] [.tmp 187, .tmp 188], some (186, true)⟩,
    ⟨some 190, .pick (.tmp 186) (.tmp 189) (.const (.bool false)), none⟩,
    ⟨some 191, .mov (.tmp 190), none⟩,
    ⟨some 192, .mov (.tmp 23), some (191, true)⟩,
    ⟨some 193, .bin .eql (.tmp 192) (.const (.int .i64 1)), some (191, true)⟩,
    ⟨some 194, .mov (.tmp 193), some (191, true)⟩,
    ⟨some 195, .load (.tmp 22) 3 true .plain, some (194, false)⟩,
    ⟨some 196, .call 23 [false] [.tmp 195], some (194, false)⟩,
    ⟨some 197, .pick (.tmp 194) (.const (.bool true)) (.tmp 196), some (191, true)⟩,
    ⟨some 198, .pick (.tmp 191) (.tmp 197) (.const (.bool false)), none⟩,
    ⟨some 2, .mov (.tmp 198), none⟩] [2])
  .ret)))))))))))))))))⟩
-- impl.wantOf
def c182b0 : CCode := (.seq (.region [
    ⟨some 11, .bin .lss (.tmp 10) (.tmp 9), none⟩] [1, 4, 8, 9, 10, 11])
  (.seq (.cond (.tmp 11)
    .skip
    (.exit 0))
  (.seq (.block 1
    (.seq (.region [
      ⟨some 12, .iaddr 7 (.tmp 8) (.tmp 10), none⟩,
      ⟨some 13, .load (.tmp 12) 7 true .plain, none⟩,
      ⟨some 7, .alloc [.str ⟨#[]⟩, .int .i64 0, .str ⟨#[]⟩, .int .i64 0, .int .i64 0, .int .i64 0, .int .i64 0], none⟩,
      ⟨none, .store (.tmp 7) (.tmp 13) 7, none⟩] [1, 4, 7, 8, 9, 10])
    (.seq (.region [
      ⟨some 14, .faddr (.tmp 7) 0, none⟩,
      ⟨some 15, .load (.tmp 14) 1 false .plain, none⟩,
      ⟨some 16, .mov (.tmp 1), none⟩,
      ⟨some 17, .bin .eql (.tmp 15) (.tmp 16), none⟩] [1, 4, 7, 8, 9, 10, 17])
    (.cond (.tmp 17)
      (.seq (.region [
        ⟨some 18, .load (.tmp 7) 7 true .plain, none⟩,
        ⟨none, .store (.tmp 4) (.tmp 18) 7, none⟩,
        ⟨some 5, .mov (.const (.bool true)), none⟩] [4, 5])
      .ret)
      .skip))))
  (.region [
    ⟨some 19, .bin .add (.tmp 10) (.const (.int .i64 1)), none⟩,
    ⟨some 10, .mov (.tmp 19), none⟩] [1, 4, 8, 9, 10]))))
def c182 : CFn := ⟨21, [.cell 4 7 true, .tmp 5],
  (.seq (.region [
    ⟨some 4, .alloc [.str ⟨#[]⟩, .int .i64 0, .str ⟨#[]⟩, .int .i64 0, .int .i64 0, .int .i64 0, .int .i64 0], none⟩,
    ⟨some 5, .mov (.const (.bool false)), none⟩] [0, 1, 4])
  (.seq (.seq (.region [
    ⟨some 8, .mov (.tmp 0), none⟩,
    ⟨some 9, .len false (.tmp 8), none⟩,
    ⟨some 10, .mov (.const (.int .i64 0)), none⟩] [1, 4, 8, 9, 10])
  (.block 0
    (.loop [1, 4, 8, 9, 10] c182b0)))
  (.seq (.region [
    ⟨some 20, .build [.str ⟨#[]⟩, .int .i64 0, .str ⟨#[]⟩, .int .i64 0, .int .i64 0, .int .i64 0, .int .i64 0] [], none⟩,
    ⟨none, .store (.tmp 4) (.tmp 20) 7, none⟩,
    ⟨some 5, .mov (.const (.bool false)), none⟩] [4, 5])
  .ret)))⟩
/-- The functions' own table. -/
def codeOf (k : Nat) : Option CFn :=
  match k with
  | 6 => some c6
  | 7 => some c7
  | 23 => some c23
  | 24 => some c24
  | 41 => some c41
  | 44 => some c44
  | 70 => some c70
  | 72 => some c72
  | 73 => some c73
  | 74 => some c74
  | 75 => some c75
  | 76 => some c76
  | 77 => some c77
  | 78 => some c78
  | 81 => some c81
  | 82 => some c82
  | 85 => some c85
  | 87 => some c87
  | 89 => some c89
  | 91 => some c91
  | 99 => some c99
  | 100 => some c100
  | 101 => some c101
  | 102 => some c102
  | 105 => some c105
  | 106 => some c106
  | 118 => some c118
  | 121 => some c121
  | 122 => some c122
  | 139 => some c139
  | 140 => some c140
  | 141 => some c141
  | 142 => some c142
  | 143 => some c143
  | 144 => some c144
  | 145 => some c145
  | 157 => some c157
  | 158 => some c158
  | 159 => some c159
  | 160 => some c160
  | 181 => some c181
  | 182 => some c182
  | _ => none
def P : CProg := ⟨codeOf, prim⟩
@[simp] theorem fn6 : P.fn 6 = some c6 := rfl
@[simp] theorem fn7 : P.fn 7 = some c7 := rfl
@[simp] theorem fn23 : P.fn 23 = some c23 := rfl
@[simp] theorem fn24 : P.fn 24 = some c24 := rfl
@[simp] theorem fn41 : P.fn 41 = some c41 := rfl
@[simp] theorem fn44 : P.fn 44 = some c44 := rfl
@[simp] theorem fn70 : P.fn 70 = some c70 := rfl
@[simp] theorem fn72 : P.fn 72 = some c72 := rfl
@[simp] theorem fn73 : P.fn 73 = some c73 := rfl
@[simp] theorem fn74 : P.fn 74 = some c74 := rfl
@[simp] theorem fn75 : P.fn 75 = some c75 := rfl
@[simp] theorem fn76 : P.fn 76 = some c76 := rfl
@[simp] theorem fn77 : P.fn 77 = some c77 := rfl
@[simp] theorem fn78 : P.fn 78 = some c78 := rfl
@[simp] theorem fn81 : P.fn 81 = some c81 := rfl
@[simp] theorem fn82 : P.fn 82 = some c82 := rfl
@[simp] theorem fn85 : P.fn 85 = some c85 := rfl
@[simp] theorem fn87 : P.fn 87 = some c87 := rfl
@[simp] theorem fn89 : P.fn 89 = some c89 := rfl
@[simp] theorem fn91 : P.fn 91 = some c91 := rfl
@[simp] theorem fn99 : P.fn 99 = some c99 := rfl
@[simp] theorem fn100 : P.fn 100 = some c100 := rfl
@[simp] theorem fn101 : P.fn 101 = some c101 := rfl
@[simp] theorem fn102 : P.fn 102 = some c102 := rfl
@[simp] theorem fn105 : P.fn 105 = some c105 := rfl
@[simp] theorem fn106 : P.fn 106 = some c106 := rfl
@[simp] theorem fn118 : P.fn 118 = some c118 := rfl
@[simp] theorem fn121 : P.fn 121 = some c121 := rfl
@[simp] theorem fn122 : P.fn 122 = some c122 := rfl
@[simp] theorem fn139 : P.fn 139 = some c139 := rfl
@[simp] theorem fn140 : P.fn 140 = some c140 := rfl
@[simp] theorem fn141 : P.fn 141 = some c141 := rfl
@[simp] theorem fn142 : P.fn 142 = some c142 := rfl
@[simp] theorem fn143 : P.fn 143 = some c143 := rfl
@[simp] theorem fn144 : P.fn 144 = some c144 := rfl
@[simp] theorem fn145 : P.fn 145 = some c145 := rfl
@[simp] theorem fn157 : P.fn 157 = some c157 := rfl
@[simp] theorem fn158 : P.fn 158 = some c158 := rfl
@[simp] theorem fn159 : P.fn 159 = some c159 := rfl
@[simp] theorem fn160 : P.fn 160 = some c160 := rfl
@[simp] theorem fn181 : P.fn 181 = some c181 := rfl
@[simp] theorem fn182 : P.fn 182 = some c182 := rfl
end Go.Proofs.Ytgdjnflnfeakjaa
