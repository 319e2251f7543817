/- The abstract code of the program's functions, printed by a program of ours out of Lean's own print of the translation. -/
import Derived.Test.YtpicbkaloefjeaaAv
namespace Go.Proofs.Ytpicbkaloefjeaa
open Go
-- laws.toMateRun
def c0 : CFn := ⟨21, [.cell 2 11 true],
  (.seq (.region [
    ⟨some 1, .box (.tmp 0), none⟩,
    ⟨some 2, .alloc [.str ⟨#[]⟩, .int .i64 0, .str ⟨#[]⟩, .int .i64 0, .int .i64 0, .int .i64 0, .int .i64 0, .int .i64 0, .int .i64 0, .int .i64 0, .int .i64 0], none⟩] [1, 2])
  (.seq (.region [
    ⟨some 3, .alloc [.str ⟨#[]⟩, .int .i64 0, .str ⟨#[]⟩, .int .i64 0, .int .i64 0, .int .i64 0, .int .i64 0, .int .i64 0, .int .i64 0, .int .i64 0, .int .i64 0], none⟩] [1, 2, 3])
  (.seq (.region [
    ⟨some 4, .faddr (.tmp 1) 0, none⟩,
    ⟨some 5, .load (.tmp 4) 7 true .plain, none⟩,
    ⟨some 6, .call 80 [false] [.tmp 5], none⟩,
    ⟨some 7, .faddr (.tmp 3) 0, none⟩,
    ⟨none, .store (.tmp 7) (.tmp 6) 7, none⟩] [1, 2, 3])
  (.seq (.region [
    ⟨some 8, .faddr (.tmp 1) 7, none⟩,
    ⟨some 9, .load (.tmp 8) 1 false .plain, none⟩,
    ⟨some 10, .faddr (.tmp 3) 7, none⟩,
    ⟨none, .store (.tmp 10) (.tmp 9) 1, none⟩] [1, 2, 3])
  (.seq (.region [
    ⟨some 11, .faddr (.tmp 1) 8, none⟩,
    ⟨some 12, .load (.tmp 11) 1 false .plain, none⟩,
    ⟨some 13, .faddr (.tmp 3) 8, none⟩,
    ⟨none, .store (.tmp 13) (.tmp 12) 1, none⟩] [1, 2, 3])
  (.seq (.region [
    ⟨some 14, .faddr (.tmp 1) 9, none⟩,
    ⟨some 15, .load (.tmp 14) 1 false .plain, none⟩,
    ⟨some 16, .faddr (.tmp 3) 9, none⟩,
    ⟨none, .store (.tmp 16) (.tmp 15) 1, none⟩] [1, 2, 3])
  (.seq (.region [
    ⟨some 17, .faddr (.tmp 1) 10, none⟩,
    ⟨some 18, .load (.tmp 17) 1 false .plain, none⟩,
    ⟨some 19, .faddr (.tmp 3) 10, none⟩,
    ⟨none, .store (.tmp 19) (.tmp 18) 1, none⟩] [2, 3])
  (.seq (.region [
    ⟨some 20, .load (.tmp 3) 11 true .plain, none⟩,
    ⟨none, .store (.tmp 2) (.tmp 20) 11, none⟩] [2])
  .ret))))))))⟩
-- impl.MateAlive
def c1 : CFn := ⟨16, [.tmp 2],
  (.seq (.region [
    ⟨some 1, .box (.tmp 0), none⟩,
    ⟨some 2, .mov (.const (.bool false)), none⟩] [1])
  (.seq (.region [
    ⟨some 3, .faddr (.tmp 1) 7, none⟩,
    ⟨some 4, .load (.tmp 3) 1 false .plain, none⟩,
    ⟨some 5, .bin .eql (.tmp 4) (.const (.int .i64 3)), none⟩,
    ⟨some 6, .mov (.tmp 5), none⟩,
    ⟨some 7, .faddr (.tmp 1) 7, some (6, false)⟩,
    ⟨some 8, .load (.tmp 7) 1 false .plain, some (6, false)⟩,
    ⟨some 9, .bin .eql (.tmp 8) (.const (.int .i64 4)), some (6, false)⟩,
    ⟨some 10, .pick (.tmp 6) (.const (.bool true)) (.tmp 9), none⟩,
    ⟨some 11, .mov (.tmp 10), none⟩,
    ⟨some 12, .faddr (.tmp 1) 7, some (11, false)⟩,
    ⟨some 13, .load (.tmp 12) 1 false .plain, some (11, false)⟩,
    ⟨some 14, .bin .eql (.tmp 13) (.const (.int .i64 6)), some (11, false)⟩,
    ⟨some 15, .pick (.tmp 11) (.const (.bool true)) (.tmp 14), none⟩,
    ⟨some 2, .mov (.tmp 15), none⟩] [2])
  .ret))⟩
-- spec.MateAlive
def c2 : CFn := ⟨16, [.tmp 2],
  (.seq (.region [
    ⟨some 1, .box (.tmp 0), none⟩,
    ⟨some 2, .mov (.const (.bool false)), none⟩] [1])
  (.seq (.region [
    ⟨some 3, .faddr (.tmp 1) 7, none⟩,
    ⟨some 4, .load (.tmp 3) 1 false .plain, none⟩,
    ⟨some 5, .bin .eql (.tmp 4) (.const (.int .i64 3)), none⟩,
    ⟨some 6, .mov (.tmp 5), none⟩,
    ⟨some 7, .faddr (.tmp 1) 7, some (6, false)⟩,
    ⟨some 8, .load (.tmp 7) 1 false .plain, some (6, false)⟩,
    ⟨some 9, .bin .eql (.tmp 8) (.const (.int .i64 4)), some (6, false)⟩,
    ⟨some 10, .pick (.tmp 6) (.const (.bool true)) (.tmp 9), none⟩,
    ⟨some 11, .mov (.tmp 10), none⟩,
    ⟨some 12, .faddr (.tmp 1) 7, some (11, false)⟩,
    ⟨some 13, .load (.tmp 12) 1 false .plain, some (11, false)⟩,
    ⟨some 14, .bin .eql (.tmp 13) (.const (.int .i64 6)), some (11, false)⟩,
    ⟨some 15, .pick (.tmp 11) (.const (.bool true)) (.tmp 14), none⟩,
    ⟨some 2, .mov (.tmp 15), none⟩] [2])
  .ret))⟩
-- laws.szMateRun
def c3 : CFn := ⟨12, [.tmp 4],
  (.seq (.region [
    ⟨some 2, .box (.tmp 0), none⟩,
    ⟨some 4, .mov (.const (.int .i64 0)), none⟩] [1, 2])
  (.seq (.region [
    ⟨some 5, .faddr (.tmp 2) 0, none⟩,
    ⟨some 6, .load (.tmp 5) 7 true .plain, none⟩,
    ⟨some 7, .mov (.tmp 1), none⟩,
    ⟨some 8, .call 79 [false, false] [.tmp 6, .tmp 7], none⟩,
    ⟨some 1, .mov (.tmp 8), none⟩] [1])
  (.seq (.seq (.region [
    ⟨some 9, .mov (.tmp 1), none⟩,
    ⟨some 10, .bin .lss (.tmp 9) (.const (.int .i64 0)), none⟩] [1, 10])
  (.cond (.tmp 10)
    (.seq (.region [
      ⟨some 4, .mov (.const (.int .i64 (-1))), none⟩] [4])
    .ret)
    .skip))
  (.seq (.region [
    ⟨some 11, .mov (.tmp 1), none⟩,
    ⟨some 4, .mov (.tmp 11), none⟩] [4])
  .ret))))⟩
-- laws.toMateRunS
def c9b0 : CCode := (.seq (.seq (.region [
    ⟨some 8, .mov (.tmp 4), none⟩,
    ⟨some 9, .mov (.tmp 0), none⟩,
    ⟨some 10, .len false (.tmp 9), none⟩,
    ⟨some 11, .bin .lss (.tmp 8) (.tmp 10), none⟩] [0, 3, 4, 11])
  (.cond (.tmp 11)
    .skip
    (.exit 0)))
  (.seq (.block 1
    (.region [
      ⟨some 14, .mov (.tmp 3), none⟩,
      ⟨some 15, .mov (.tmp 4), none⟩,
      ⟨some 16, .mov (.tmp 0), none⟩,
      ⟨some 17, .mov (.tmp 4), none⟩,
      ⟨some 18, .iaddr 11 (.tmp 16) (.tmp 17), none⟩,
      ⟨some 19, .load (.tmp 18) 11 true .plain, none⟩,
      ⟨some 20, .call 0 [false] [.tmp 19], none⟩,
      ⟨some 21, .iaddr 11 (.tmp 14) (.tmp 15), none⟩,
      ⟨none, .store (.tmp 21) (.tmp 20) 11, none⟩] [0, 3, 4]))
  (.region [
    ⟨some 12, .mov (.tmp 4), none⟩,
    ⟨some 13, .bin .add (.tmp 12) (.const (.int .i64 1)), none⟩,
    ⟨some 4, .mov (.tmp 13), none⟩] [0, 3, 4])))
def c9 : CFn := ⟨23, [.tmp 2],
  (.seq (.region [
    ⟨some 2, .mov (.const (.sl .own 11 [])), none⟩] [0])
  (.seq (.region [
    ⟨some 5, .mov (.tmp 0), none⟩,
    ⟨some 6, .len false (.tmp 5), none⟩,
    ⟨some 7, .mksl 11 [.str ⟨#[]⟩, .int .i64 0, .str ⟨#[]⟩, .int .i64 0, .int .i64 0, .int .i64 0, .int .i64 0, .int .i64 0, .int .i64 0, .int .i64 0, .int .i64 0] 104 (.tmp 6), none⟩,
    ⟨some 3, .mov (.tmp 7), none⟩] [0, 3])
  (.seq (.seq (.region [
    ⟨some 4, .mov (.const (.int .i64 0)), none⟩] [0, 3, 4])
  (.block 0
    (.loop [0, 3, 4] c9b0)))
  (.seq (.region [
    ⟨some 22, .mov (.tmp 3), none⟩,
    ⟨some 2, .mov (.tmp 22), none⟩] [2])
  .ret))))⟩
-- laws.eqMateRunS
def c10b0 : CCode := (.seq (.seq (.region [
    ⟨some 11, .mov (.tmp 5), none⟩,
    ⟨some 12, .mov (.tmp 0), none⟩,
    ⟨some 13, .len false (.tmp 12), none⟩,
    ⟨some 14, .bin .lss (.tmp 11) (.tmp 13), none⟩] [0, 1, 5, 14])
  (.cond (.tmp 14)
    .skip
    (.exit 0)))
  (.seq (.block 1
    (.seq (.quiet [
      ⟨some 17, .mov (.tmp 0), none⟩,
      ⟨some 18, .mov (.tmp 5), none⟩,
      ⟨some 19, .iaddr 11 (.tmp 17) (.tmp 18), none⟩,
      ⟨some 20, .load (.tmp 19) 11 true .plain, none⟩,
      ⟨some 21, .mov (.tmp 1), none⟩,
      ⟨some 22, .mov (.tmp 5), none⟩,
      ⟨some 23, .iaddr 11 (.tmp 21) (.tmp 22), none⟩,
      ⟨some 24, .load (.tmp 23) 11 true .plain, none⟩,
      ⟨some 25, .call 86 [false, false] [.tmp 20, .tmp 24], none⟩,
      ⟨some 26, .un .not (.tmp 25), none⟩] [0, 1, 5, 26])
    (.cond (.tmp 26)
      (.seq (.region [
        ⟨some 4, .mov (.const (.bool false)), none⟩] [4])
      .ret)
      .skip)))
  (.region [
    ⟨some 15, .mov (.tmp 5), none⟩,
    ⟨some 16, .bin .add (.tmp 15) (.const (.int .i64 1)), none⟩,
    ⟨some 5, .mov (.tmp 16), none⟩] [0, 1, 5])))
def c10 : CFn := ⟨27, [.tmp 4],
  (.seq (.region [
    ⟨some 4, .mov (.const (.bool false)), none⟩] [0, 1])
  (.seq (.seq (.region [
    ⟨some 6, .mov (.tmp 0), none⟩,
    ⟨some 7, .len false (.tmp 6), none⟩,
    ⟨some 8, .mov (.tmp 1), none⟩,
    ⟨some 9, .len false (.tmp 8), none⟩,
    ⟨some 10, .bin .neq (.tmp 7) (.tmp 9), none⟩] [0, 1, 10])
  (.cond (.tmp 10)
    (.seq (.region [
      ⟨some 4, .mov (.const (.bool false)), none⟩] [4])
    .ret)
    .skip))
  (.seq (.seq (.region [
    ⟨some 5, .mov (.const (.int .i64 0)), none⟩] [0, 1, 5])
  (.block 0
    (.loop [0, 1, 5] c10b0)))
  (.seq (.region [
    ⟨some 4, .mov (.const (.bool true)), none⟩] [4])
  .ret))))⟩
-- laws.szMateRunS
def c13b0 : CCode := (.seq (.seq (.region [
    ⟨some 12, .mov (.tmp 5), none⟩,
    ⟨some 13, .mov (.tmp 0), none⟩,
    ⟨some 14, .len false (.tmp 13), none⟩,
    ⟨some 15, .bin .lss (.tmp 12) (.tmp 14), none⟩] [0, 1, 5, 15])
  (.cond (.tmp 15)
    .skip
    (.exit 0)))
  (.seq (.block 1
    (.seq (.region [
      ⟨some 18, .mov (.tmp 0), none⟩,
      ⟨some 19, .mov (.tmp 5), none⟩,
      ⟨some 20, .iaddr 11 (.tmp 18) (.tmp 19), none⟩,
      ⟨some 21, .load (.tmp 20) 11 true .plain, none⟩,
      ⟨some 22, .mov (.tmp 1), none⟩,
      ⟨some 23, .call 3 [false, false] [.tmp 21, .tmp 22], none⟩,
      ⟨some 1, .mov (.tmp 23), none⟩] [0, 1, 5])
    (.seq (.region [
      ⟨some 24, .mov (.tmp 1), none⟩,
      ⟨some 25, .bin .lss (.tmp 24) (.const (.int .i64 0)), none⟩] [0, 1, 5, 25])
    (.cond (.tmp 25)
      (.seq (.region [
        ⟨some 4, .mov (.const (.int .i64 (-1))), none⟩] [4])
      .ret)
      .skip))))
  (.region [
    ⟨some 16, .mov (.tmp 5), none⟩,
    ⟨some 17, .bin .add (.tmp 16) (.const (.int .i64 1)), none⟩,
    ⟨some 5, .mov (.tmp 17), none⟩] [0, 1, 5])))
def c13 : CFn := ⟨27, [.tmp 4],
  (.seq (.region [
    ⟨some 4, .mov (.const (.int .i64 0)), none⟩] [0, 1])
  (.seq (.region [
    ⟨some 6, .mov (.tmp 1), none⟩,
    ⟨some 7, .mov (.tmp 0), none⟩,
    ⟨some 8, .len false (.tmp 7), none⟩,
    ⟨some 9, .bin .sub (.tmp 6) (.tmp 8), none⟩,
    ⟨some 1, .mov (.tmp 9), none⟩] [0, 1])
  (.seq (.seq (.region [
    ⟨some 10, .mov (.tmp 1), none⟩,
    ⟨some 11, .bin .lss (.tmp 10) (.const (.int .i64 0)), none⟩] [0, 1, 11])
  (.cond (.tmp 11)
    (.seq (.region [
      ⟨some 4, .mov (.const (.int .i64 (-1))), none⟩] [4])
    .ret)
    .skip))
  (.seq (.seq (.region [
    ⟨some 5, .mov (.const (.int .i64 0)), none⟩] [0, 1, 5])
  (.block 0
    (.loop [0, 1, 5] c13b0)))
  (.seq (.region [
    ⟨some 26, .mov (.tmp 1), none⟩,
    ⟨some 4, .mov (.tmp 26), none⟩] [4])
  .ret)))))⟩
-- laws.heldMateRunS
def c17b0 : CCode := (.seq (.seq (.region [
    ⟨some 6, .mov (.tmp 5), none⟩,
    ⟨some 7, .mov (.tmp 0), none⟩,
    ⟨some 8, .len false (.tmp 7), none⟩,
    ⟨some 9, .bin .lss (.tmp 6) (.tmp 8), none⟩] [0, 1, 5, 9])
  (.cond (.tmp 9)
    .skip
    (.exit 0)))
  (.seq (.block 1
    (.seq (.seq (.quiet [
      ⟨some 12, .mov (.tmp 0), none⟩,
      ⟨some 13, .mov (.tmp 5), none⟩,
      ⟨some 14, .iaddr 11 (.tmp 12) (.tmp 13), none⟩,
      ⟨some 15, .faddr (.tmp 14) 0, none⟩,
      ⟨some 16, .faddr (.tmp 15) 0, none⟩,
      ⟨some 17, .load (.tmp 16) 1 false .plain, none⟩,
      ⟨some 18, .mov (.tmp 1), none⟩,
      ⟨some 19, .call 96 [false] [.tmp 18], none⟩,
      ⟨some 20, .bin .neq (.tmp 17) (.tmp 19), none⟩] [0, 1, 5, 20])
    (.cond (.tmp 20)
      (.seq (.region [
        ⟨some 4, .mov (.const (.int .i64 (-1))), none⟩] [4])
      .ret)
      .skip))
    (.seq (.region [
      ⟨some 21, .mov (.tmp 1), none⟩,
      ⟨some 22, .bin .add (.tmp 21) (.const (.int .i64 1)), none⟩,
      ⟨some 1, .mov (.tmp 22), none⟩] [0, 1, 5])
    (.seq (.seq (.region [
      ⟨some 23, .mov (.tmp 0), none⟩,
      ⟨some 24, .mov (.tmp 5), none⟩,
      ⟨some 25, .iaddr 11 (.tmp 23) (.tmp 24), none⟩,
      ⟨some 26, .faddr (.tmp 25) 0, none⟩,
      ⟨some 27, .faddr (.tmp 26) 1, none⟩,
      ⟨some 28, .load (.tmp 27) 1 false .plain, none⟩,
      ⟨some 29, .mov (.tmp 1), none⟩,
      ⟨some 30, .bin .neq (.tmp 28) (.tmp 29), none⟩] [0, 1, 5, 30])
    (.cond (.tmp 30)
      (.seq (.region [
        ⟨some 4, .mov (.const (.int .i64 (-1))), none⟩] [4])
      .ret)
      .skip))
    (.seq (.region [
      ⟨some 31, .mov (.tmp 1), none⟩,
      ⟨some 32, .bin .add (.tmp 31) (.const (.int .i64 1)), none⟩,
      ⟨some 1, .mov (.tmp 32), none⟩] [0, 1, 5])
    (.seq (.seq (.quiet [
      ⟨some 33, .mov (.tmp 0), none⟩,
      ⟨some 34, .mov (.tmp 5), none⟩,
      ⟨some 35, .iaddr 11 (.tmp 33) (.tmp 34), none⟩,
      ⟨some 36, .faddr (.tmp 35) 0, none⟩,
      ⟨some 37, .faddr (.tmp 36) 2, none⟩,
      ⟨some 38, .load (.tmp 37) 1 false .plain, none⟩,
      ⟨some 39, .mov (.tmp 1), none⟩,
      ⟨some 40, .call 96 [false] [.tmp 39], none⟩,
      ⟨some 41, .bin .neq (.tmp 38) (.tmp 40), none⟩] [0, 1, 5, 41])
    (.cond (.tmp 41)
      (.seq (.region [
        ⟨some 4, .mov (.const (.int .i64 (-1))), none⟩] [4])
      .ret)
      .skip))
    (.seq (.region [
      ⟨some 42, .mov (.tmp 1), none⟩,
      ⟨some 43, .bin .add (.tmp 42) (.const (.int .i64 1)), none⟩,
      ⟨some 1, .mov (.tmp 43), none⟩] [0, 1, 5])
    (.seq (.seq (.region [
      ⟨some 44, .mov (.tmp 0), none⟩,
      ⟨some 45, .mov (.tmp 5), none⟩,
      ⟨some 46, .iaddr 11 (.tmp 44) (.tmp 45), none⟩,
      ⟨some 47, .faddr (.tmp 46) 0, none⟩,
      ⟨some 48, .faddr (.tmp 47) 3, none⟩,
      ⟨some 49, .load (.tmp 48) 1 false .plain, none⟩,
      ⟨some 50, .mov (.tmp 1), none⟩,
      ⟨some 51, .bin .neq (.tmp 49) (.tmp 50), none⟩] [0, 1, 5, 51])
    (.cond (.tmp 51)
      (.seq (.region [
        ⟨some 4, .mov (.const (.int .i64 (-1))), none⟩] [4])
      .ret)
      .skip))
    (.seq (.region [
      ⟨some 52, .mov (.tmp 1), none⟩,
      ⟨some 53, .bin .add (.tmp 52) (.const (.int .i64 1)), none⟩,
      ⟨some 1, .mov (.tmp 53), none⟩] [0, 1, 5])
    (.seq (.seq (.region [
      ⟨some 54, .mov (.tmp 0), none⟩,
      ⟨some 55, .mov (.tmp 5), none⟩,
      ⟨some 56, .iaddr 11 (.tmp 54) (.tmp 55), none⟩,
      ⟨some 57, .faddr (.tmp 56) 0, none⟩,
      ⟨some 58, .faddr (.tmp 57) 4, none⟩,
      ⟨some 59, .load (.tmp 58) 1 false .plain, none⟩,
      ⟨some 60, .mov (.tmp 1), none⟩,
      ⟨some 61, .bin .neq (.tmp 59) (.tmp 60), none⟩] [0, 1, 5, 61])
    (.cond (.tmp 61)
      (.seq (.region [
        ⟨some 4, .mov (.const (.int .i64 (-1))), none⟩] [4])
      .ret)
      .skip))
    (.seq (.region [
      ⟨some 62, .mov (.tmp 1), none⟩,
      ⟨some 63, .bin .add (.tmp 62) (.const (.int .i64 1)), none⟩,
      ⟨some 1, .mov (.tmp 63), none⟩] [0, 1, 5])
    (.seq (.seq (.region [
      ⟨some 64, .mov (.tmp 0), none⟩,
      ⟨some 65, .mov (.tmp 5), none⟩,
      ⟨some 66, .iaddr 11 (.tmp 64) (.tmp 65), none⟩,
      ⟨some 67, .faddr (.tmp 66) 0, none⟩,
      ⟨some 68, .faddr (.tmp 67) 5, none⟩,
      ⟨some 69, .load (.tmp 68) 1 false .plain, none⟩,
      ⟨some 70, .mov (.tmp 1), none⟩,
      ⟨some 71, .bin .neq (.tmp 69) (.tmp 70), none⟩] [0, 1, 5, 71])
    (.cond (.tmp 71)
      (.seq (.region [
        ⟨some 4, .mov (.const (.int .i64 (-1))), none⟩] [4])
      .ret)
      .skip))
    (.seq (.region [
      ⟨some 72, .mov (.tmp 1), none⟩,
      ⟨some 73, .bin .add (.tmp 72) (.const (.int .i64 1)), none⟩,
      ⟨some 1, .mov (.tmp 73), none⟩] [0, 1, 5])
    (.seq (.seq (.region [
      ⟨some 74, .mov (.tmp 0), none⟩,
      ⟨some 75, .mov (.tmp 5), none⟩,
      ⟨some 76, .iaddr 11 (.tmp 74) (.tmp 75), none⟩,
      ⟨some 77, .faddr (.tmp 76) 0, none⟩,
      ⟨some 78, .faddr (.tmp 77) 6, none⟩,
      ⟨some 79, .load (.tmp 78) 1 false .plain, none⟩,
      ⟨some 80, .mov (.tmp 1), none⟩,
      ⟨some 81, .bin .neq (.tmp 79) (.tmp 80), none⟩] [0, 1, 5, 81])
    (.cond (.tmp 81)
      (.seq (.region [
        ⟨some 4, .mov (.const (.int .i64 (-1))), none⟩] [4])
      .ret)
      .skip))
    (.seq (.region [
      ⟨some 82, .mov (.tmp 1), none⟩,
      ⟨some 83, .bin .add (.tmp 82) (.const (.int .i64 1)), none⟩,
      ⟨some 1, .mov (.tmp 83), none⟩] [0, 1, 5])
    (.seq (.seq (.region [
      ⟨some 84, .mov (.tmp 0), none⟩,
      ⟨some 85, .mov (.tmp 5), none⟩,
      ⟨some 86, .iaddr 11 (.tmp 84) (.tmp 85), none⟩,
      ⟨some 87, .faddr (.tmp 86) 7, none⟩,
      ⟨some 88, .load (.tmp 87) 1 false .plain, none⟩,
      ⟨some 89, .mov (.tmp 1), none⟩,
      ⟨some 90, .bin .neq (.tmp 88) (.tmp 89), none⟩] [0, 1, 5, 90])
    (.cond (.tmp 90)
      (.seq (.region [
        ⟨some 4, .mov (.const (.int .i64 (-1))), none⟩] [4])
      .ret)
      .skip))
    (.seq (.region [
      ⟨some 91, .mov (.tmp 1), none⟩,
      ⟨some 92, .bin .add (.tmp 91) (.const (.int .i64 1)), none⟩,
      ⟨some 1, .mov (.tmp 92), none⟩] [0, 1, 5])
    (.seq (.seq (.region [
      ⟨some 93, .mov (.tmp 0), none⟩,
      ⟨some 94, .mov (.tmp 5), none⟩,
      ⟨some 95, .iaddr 11 (.tmp 93) (.tmp 94), none⟩,
      ⟨some 96, .faddr (.tmp 95) 8, none⟩,
      ⟨some 97, .load (.tmp 96) 1 false .plain, none⟩,
      ⟨some 98, .mov (.tmp 1), none⟩,
      ⟨some 99, .bin .neq (.tmp 97) (.tmp 98), none⟩] [0, 1, 5, 99])
    (.cond (.tmp 99)
      (.seq (.region [
        ⟨some 4, .mov (.const (.int .i64 (-1))), none⟩] [4])
      .ret)
      .skip))
    (.seq (.region [
      ⟨some 100, .mov (.tmp 1), none⟩,
      ⟨some 101, .bin .add (.tmp 100) (.const (.int .i64 1)), none⟩,
      ⟨some 1, .mov (.tmp 101), none⟩] [0, 1, 5])
    (.seq (.seq (.region [
      ⟨some 102, .mov (.tmp 0), none⟩,
      ⟨some 103, .mov (.tmp 5), none⟩,
      ⟨some 104, .iaddr 11 (.tmp 102) (.tmp 103), none⟩,
      ⟨some 105, .faddr (.tmp 104) 9, none⟩,
      ⟨some 106, .load (.tmp 105) 1 false .plain, none⟩,
      ⟨some 107, .mov (.tmp 1), none⟩,
      ⟨some 108, .bin .neq (.tmp 106) (.tmp 107), none⟩] [0, 1, 5, 108])
    (.cond (.tmp 108)
      (.seq (.region [
        ⟨some 4, .mov (.const (.int .i64 (-1))), none⟩] [4])
      .ret)
      .skip))
    (.seq (.region [
      ⟨some 109, .mov (.tmp 1), none⟩,
      ⟨some 110, .bin .add (.tmp 109) (.const (.int .i64 1)), none⟩,
      ⟨some 1, .mov (.tmp 110), none⟩] [0, 1, 5])
    (.seq (.seq (.region [
      ⟨some 111, .mov (.tmp 0), none⟩,
      ⟨some 112, .mov (.tmp 5), none⟩,
      ⟨some 113, .iaddr 11 (.tmp 111) (.tmp 112), none⟩,
      ⟨some 114, .faddr (.tmp 113) 10, none⟩,
      ⟨some 115, .load (.tmp 114) 1 false .plain, none⟩,
      ⟨some 116, .mov (.tmp 1), none⟩,
      ⟨some 117, .bin .neq (.tmp 115) (.tmp 116), none⟩] [0, 1, 5, 117])
    (.cond (.tmp 117)
      (.seq (.region [
        ⟨some 4, .mov (.const (.int .i64 (-1))), none⟩] [4])
      .ret)
      .skip))
    (.region [
      ⟨some 118, .mov (.tmp 1), none⟩,
      ⟨some 119, .bin .add (.tmp 118) (.const (.int .i64 1)), none⟩,
      ⟨some 1, .mov (.tmp 119), none⟩] [0, 1, 5])))))))))))))))))))))))
  (.region [
    ⟨some 10, .mov (.tmp 5), none⟩,
    ⟨some 11, .bin .add (.tmp 10) (.const (.int .i64 1)), none⟩,
    ⟨some 5, .mov (.tmp 11), none⟩] [0, 1, 5])))
def c17 : CFn := ⟨121, [.tmp 4],
  (.seq (.region [
    ⟨some 4, .mov (.const (.int .i64 0)), none⟩] [0, 1])
  (.seq (.seq (.region [
    ⟨some 5, .mov (.const (.int .i64 0)), none⟩] [0, 1, 5])
  (.block 0
    (.loop [0, 1, 5] c17b0)))
  (.seq (.region [
    ⟨some 120, .mov (.tmp 1), none⟩,
    ⟨some 4, .mov (.tmp 120), none⟩] [4])
  .ret)))⟩
-- impl.MateWatchdog
def c18b0 : CCode := (.seq (.region [
    ⟨some 11, .bin .lss (.tmp 10) (.tmp 9), none⟩] [1, 5, 8, 9, 10, 11])
  (.seq (.cond (.tmp 11)
    .skip
    (.exit 0))
  (.seq (.block 1
    (.seq (.region [
      ⟨some 12, .iaddr 11 (.tmp 8) (.tmp 10), none⟩,
      ⟨some 13, .load (.tmp 12) 11 true .plain, none⟩,
      ⟨some 7, .alloc [.str ⟨#[]⟩, .int .i64 0, .str ⟨#[]⟩, .int .i64 0, .int .i64 0, .int .i64 0, .int .i64 0, .int .i64 0, .int .i64 0, .int .i64 0, .int .i64 0], none⟩,
      ⟨none, .store (.tmp 7) (.tmp 13) 11, none⟩] [1, 5, 7, 8, 9, 10])
    (.seq (.seq (.region [
      ⟨some 14, .load (.tmp 7) 11 true .plain, none⟩,
      ⟨some 15, .call 1 [false] [.tmp 14], none⟩,
      ⟨some 16, .mov (.tmp 15), none⟩,
      ⟨some 17, .faddr (.tmp 7) 0, some (16, true)⟩,
      ⟨some 18, .faddr (.tmp 17) 2, some (16, true)⟩,
      ⟨some 19, .load (.tmp 18) 1 false .plain, some (16, true)⟩,
      ⟨some 20, .bin .neq (.tmp 19) (.const (.str ⟨#[]⟩)), some (16, true)⟩,
      ⟨some 21, .pick (.tmp 16) (.tmp 20) (.const (.bool false)), none⟩,
      ⟨some 22, .mov (.tmp 21), none⟩,
      ⟨some 23, .faddr (.tmp 7) 10, some (22, true)⟩,
      ⟨some 24, .load (.tmp 23) 1 false .plain, some (22, true)⟩,
      ⟨some 25, .mov (.tmp 1), some (22, true)⟩,
      ⟨some 26, .bin .add (.tmp 25) (.const (.int .i64 4)), some (22, true)⟩,
      ⟨some 27, .bin .lss (.tmp 24) (.tmp 26), some (22, true)⟩,
      ⟨some 28, .pick (.tmp 22) (.tmp 27) (.const (.bool false)), none⟩] [1, 5, 7, 8, 9, 10, 28])
    (.cond (.tmp 28)
      (.region [
        ⟨some 29, .faddr (.tmp 7) 7, none⟩,
        ⟨none, .store (.tmp 29) (.const (.int .i64 2)) 1, none⟩,
        ⟨some 30, .faddr (.tmp 7) 8, none⟩,
        ⟨none, .store (.tmp 30) (.const (.int .i64 0)) 1, none⟩] [1, 5, 7, 8, 9, 10])
      .skip))
    (.region [
      ⟨some 31, .mov (.tmp 5), none⟩,
      ⟨some 32, .load (.tmp 7) 11 true .plain, none⟩,
      ⟨some 33, .bslice 11 [.str ⟨#[]⟩, .int .i64 0, .str ⟨#[]⟩, .int .i64 0, .int .i64 0, .int .i64 0, .int .i64 0, .int .i64 0, .int .i64 0, .int .i64 0, .int .i64 0] 1 [(0, .tmp 32)], none⟩,
      ⟨some 34, .append 11 104 true (.tmp 31) (.tmp 33), none⟩,
      ⟨some 5, .mov (.tmp 34), none⟩] [1, 5, 8, 9, 10]))))
  (.region [
    ⟨some 35, .bin .add (.tmp 10) (.const (.int .i64 1)), none⟩,
    ⟨some 10, .mov (.tmp 35), none⟩] [1, 5, 8, 9, 10]))))
def c18 : CFn := ⟨37, [.tmp 4],
  (.seq (.region [
    ⟨some 4, .mov (.const (.sl .own 11 [])), none⟩] [0, 1])
  (.seq (.region [
    ⟨some 5, .mov (.const (.sl .own 11 [])), none⟩] [0, 1, 5])
  (.seq (.seq (.region [
    ⟨some 8, .mov (.tmp 0), none⟩,
    ⟨some 9, .len false (.tmp 8), none⟩,
    ⟨some 10, .mov (.const (.int .i64 0)), none⟩] [1, 5, 8, 9, 10])
  (.block 0
    (.loop [1, 5, 8, 9, 10] c18b0)))
  (.seq (.region [
    ⟨some 36, .mov (.tmp 5), none⟩,
    ⟨some 4, .mov (.tmp 36), none⟩] [4])
  .ret))))⟩
-- laws.markMateRunS
def c19b0 : CCode := (.seq (.seq (.region [
    ⟨some 6, .mov (.tmp 5), none⟩,
    ⟨some 7, .mov (.tmp 0), none⟩,
    ⟨some 8, .len false (.tmp 7), none⟩,
    ⟨some 9, .bin .lss (.tmp 6) (.tmp 8), none⟩] [0, 1, 5, 9])
  (.cond (.tmp 9)
    .skip
    (.exit 0)))
  (.seq (.block 1
    (.seq (.region [
      ⟨some 12, .mov (.tmp 0), none⟩,
      ⟨some 13, .mov (.tmp 5), none⟩,
      ⟨some 14, .mov (.tmp 1), none⟩,
      ⟨some 15, .call 96 [false] [.tmp 14], none⟩,
      ⟨some 16, .iaddr 11 (.tmp 12) (.tmp 13), none⟩,
      ⟨some 17, .faddr (.tmp 16) 0, none⟩,
      ⟨some 18, .faddr (.tmp 17) 0, none⟩,
      ⟨none, .store (.tmp 18) (.tmp 15) 1, none⟩] [0, 1, 5])
    (.seq (.region [
      ⟨some 19, .mov (.tmp 1), none⟩,
      ⟨some 20, .bin .add (.tmp 19) (.const (.int .i64 1)), none⟩,
      ⟨some 1, .mov (.tmp 20), none⟩] [0, 1, 5])
    (.seq (.region [
      ⟨some 21, .mov (.tmp 0), none⟩,
      ⟨some 22, .mov (.tmp 5), none⟩,
      ⟨some 23, .mov (.tmp 1), none⟩,
      ⟨some 24, .iaddr 11 (.tmp 21) (.tmp 22), none⟩,
      ⟨some 25, .faddr (.tmp 24) 0, none⟩,
      ⟨some 26, .faddr (.tmp 25) 1, none⟩,
      ⟨none, .store (.tmp 26) (.tmp 23) 1, none⟩] [0, 1, 5])
    (.seq (.region [
      ⟨some 27, .mov (.tmp 1), none⟩,
      ⟨some 28, .bin .add (.tmp 27) (.const (.int .i64 1)), none⟩,
      ⟨some 1, .mov (.tmp 28), none⟩] [0, 1, 5])
    (.seq (.region [
      ⟨some 29, .mov (.tmp 0), none⟩,
      ⟨some 30, .mov (.tmp 5), none⟩,
      ⟨some 31, .mov (.tmp 1), none⟩,
      ⟨some 32, .call 96 [false] [.tmp 31], none⟩,
      ⟨some 33, .iaddr 11 (.tmp 29) (.tmp 30), none⟩,
      ⟨some 34, .faddr (.tmp 33) 0, none⟩,
      ⟨some 35, .faddr (.tmp 34) 2, none⟩,
      ⟨none, .store (.tmp 35) (.tmp 32) 1, none⟩] [0, 1, 5])
    (.seq (.region [
      ⟨some 36, .mov (.tmp 1), none⟩,
      ⟨some 37, .bin .add (.tmp 36) (.const (.int .i64 1)), none⟩,
      ⟨some 1, .mov (.tmp 37), none⟩] [0, 1, 5])
    (.seq (.region [
      ⟨some 38, .mov (.tmp 0), none⟩,
      ⟨some 39, .mov (.tmp 5), none⟩,
      ⟨some 40, .mov (.tmp 1), none⟩,
      ⟨some 41, .iaddr 11 (.tmp 38) (.tmp 39), none⟩,
      ⟨some 42, .faddr (.tmp 41) 0, none⟩,
      ⟨some 43, .faddr (.tmp 42) 3, none⟩,
      ⟨none, .store (.tmp 43) (.tmp 40) 1, none⟩] [0, 1, 5])
    (.seq (.region [
      ⟨some 44, .mov (.tmp 1), none⟩,
      ⟨some 45, .bin .add (.tmp 44) (.const (.int .i64 1)), none⟩,
      ⟨some 1, .mov (.tmp 45), none⟩] [0, 1, 5])
    (.seq (.region [
      ⟨some 46, .mov (.tmp 0), none⟩,
      ⟨some 47, .mov (.tmp 5), none⟩,
      ⟨some 48, .mov (.tmp 1), none⟩,
      ⟨some 49, .iaddr 11 (.tmp 46) (.tmp 47), none⟩,
      ⟨some 50, .faddr (.tmp 49) 0, none⟩,
      ⟨some 51, .faddr (.tmp 50) 4, none⟩,
      ⟨none, .store (.tmp 51) (.tmp 48) 1, none⟩] [0, 1, 5])
    (.seq (.region [
      ⟨some 52, .mov (.tmp 1), none⟩,
      ⟨some 53, .bin .add (.tmp 52) (.const (.int .i64 1)), none⟩,
      ⟨some 1, .mov (.tmp 53), none⟩] [0, 1, 5])
    (.seq (.region [
      ⟨some 54, .mov (.tmp 0), none⟩,
      ⟨some 55, .mov (.tmp 5), none⟩,
      ⟨some 56, .mov (.tmp 1), none⟩,
      ⟨some 57, .iaddr 11 (.tmp 54) (.tmp 55), none⟩,
      ⟨some 58, .faddr (.tmp 57) 0, none⟩,
      ⟨some 59, .faddr (.tmp 58) 5, none⟩,
      ⟨none, .store (.tmp 59) (.tmp 56) 1, none⟩] [0, 1, 5])
    (.seq (.region [
      ⟨some 60, .mov (.tmp 1), none⟩,
      ⟨some 61, .bin .add (.tmp 60) (.const (.int .i64 1)), none⟩,
      ⟨some 1, .mov (.tmp 61), none⟩] [0, 1, 5])
    (.seq (.region [
      ⟨some 62, .mov (.tmp 0), none⟩,
      ⟨some 63, .mov (.tmp 5), none⟩,
      ⟨some 64, .mov (.tmp 1), none⟩,
      ⟨some 65, .iaddr 11 (.tmp 62) (.tmp 63), none⟩,
      ⟨some 66, .faddr (.tmp 65) 0, none⟩,
      ⟨some 67, .faddr (.tmp 66) 6, none⟩,
      ⟨none, .store (.tmp 67) (.tmp 64) 1, none⟩] [0, 1, 5])
    (.seq (.region [
      ⟨some 68, .mov (.tmp 1), none⟩,
      ⟨some 69, .bin .add (.tmp 68) (.const (.int .i64 1)), none⟩,
      ⟨some 1, .mov (.tmp 69), none⟩] [0, 1, 5])
    (.seq (.region [
      ⟨some 70, .mov (.tmp 0), none⟩,
      ⟨some 71, .mov (.tmp 5), none⟩,
      ⟨some 72, .mov (.tmp 1), none⟩,
      ⟨some 73, .iaddr 11 (.tmp 70) (.tmp 71), none⟩,
      ⟨some 74, .faddr (.tmp 73) 7, none⟩,
      ⟨none, .store (.tmp 74) (.tmp 72) 1, none⟩] [0, 1, 5])
    (.seq (.region [
      ⟨some 75, .mov (.tmp 1), none⟩,
      ⟨some 76, .bin .add (.tmp 75) (.const (.int .i64 1)), none⟩,
      ⟨some 1, .mov (.tmp 76), none⟩] [0, 1, 5])
    (.seq (.region [
      ⟨some 77, .mov (.tmp 0), none⟩,
      ⟨some 78, .mov (.tmp 5), none⟩,
      ⟨some 79, .mov (.tmp 1), none⟩,
      ⟨some 80, .iaddr 11 (.tmp 77) (.tmp 78), none⟩,
      ⟨some 81, .faddr (.tmp 80) 8, none⟩,
      ⟨none, .store (.tmp 81) (.tmp 79) 1, none⟩] [0, 1, 5])
    (.seq (.region [
      ⟨some 82, .mov (.tmp 1), none⟩,
      ⟨some 83, .bin .add (.tmp 82) (.const (.int .i64 1)), none⟩,
      ⟨some 1, .mov (.tmp 83), none⟩] [0, 1, 5])
    (.seq (.region [
      ⟨some 84, .mov (.tmp 0), none⟩,
      ⟨some 85, .mov (.tmp 5), none⟩,
      ⟨some 86, .mov (.tmp 1), none⟩,
      ⟨some 87, .iaddr 11 (.tmp 84) (.tmp 85), none⟩,
      ⟨some 88, .faddr (.tmp 87) 9, none⟩,
      ⟨none, .store (.tmp 88) (.tmp 86) 1, none⟩] [0, 1, 5])
    (.seq (.region [
      ⟨some 89, .mov (.tmp 1), none⟩,
      ⟨some 90, .bin .add (.tmp 89) (.const (.int .i64 1)), none⟩,
      ⟨some 1, .mov (.tmp 90), none⟩] [0, 1, 5])
    (.seq (.region [
      ⟨some 91, .mov (.tmp 0), none⟩,
      ⟨some 92, .mov (.tmp 5), none⟩,
      ⟨some 93, .mov (.tmp 1), none⟩,
      ⟨some 94, .iaddr 11 (.tmp 91) (.tmp 92), none⟩,
      ⟨some 95, .faddr (.tmp 94) 10, none⟩,
      ⟨none, .store (.tmp 95) (.tmp 93) 1, none⟩] [0, 1, 5])
    (.region [
      ⟨some 96, .mov (.tmp 1), none⟩,
      ⟨some 97, .bin .add (.tmp 96) (.const (.int .i64 1)), none⟩,
      ⟨some 1, .mov (.tmp 97), none⟩] [0, 1, 5])))))))))))))))))))))))
  (.region [
    ⟨some 10, .mov (.tmp 5), none⟩,
    ⟨some 11, .bin .add (.tmp 10) (.const (.int .i64 1)), none⟩,
    ⟨some 5, .mov (.tmp 11), none⟩] [0, 1, 5])))
def c19 : CFn := ⟨99, [.tmp 4],
  (.seq (.region [
    ⟨some 4, .mov (.const (.int .i64 0)), none⟩] [0, 1])
  (.seq (.seq (.region [
    ⟨some 5, .mov (.const (.int .i64 0)), none⟩] [0, 1, 5])
  (.block 0
    (.loop [0, 1, 5] c19b0)))
  (.seq (.region [
    ⟨some 98, .mov (.tmp 1), none⟩,
    ⟨some 4, .mov (.tmp 98), none⟩] [4])
  .ret)))⟩
-- spec.MateWatchdog
def c20b0 : CCode := (.seq (.seq (.region [
    ⟨some 9, .mov (.tmp 6), none⟩,
    ⟨some 10, .mov (.tmp 0), none⟩,
    ⟨some 11, .len false (.tmp 10), none⟩,
    ⟨some 12, .bin .lss (.tmp 9) (.tmp 11), none⟩] [0, 1, 5, 6, 12])
  (.cond (.tmp 12)
    .skip
    (.exit 0)))
  (.seq (.block 1
    (.seq (.region [
      ⟨some 15, .mov (.tmp 0), none⟩,
      ⟨some 16, .mov (.tmp 6), none⟩,
      ⟨some 17, .iaddr 11 (.tmp 15) (.tmp 16), none⟩,
      ⟨some 18, .load (.tmp 17) 11 true .plain, none⟩,
      ⟨some 7, .alloc [.str ⟨#[]⟩, .int .i64 0, .str ⟨#[]⟩, .int .i64 0, .int .i64 0, .int .i64 0, .int .i64 0, .int .i64 0, .int .i64 0, .int .i64 0, .int .i64 0], none⟩,
      ⟨none, .store (.tmp 7) (.tmp 18) 11, none⟩] [0, 1, 5, 6, 7])
    (.seq (.seq (.region [
      ⟨some 19, .load (.tmp 7) 11 true .plain, none⟩,
      ⟨some 20, .call 2 [false] [.tmp 19], none⟩,
      ⟨some 21, .mov (.tmp 20), none⟩,
      ⟨some 22, .load (.tmp 7) 11 true .plain, some (21, true)⟩,
      ⟨some 23, .mov (.tmp 1), some (21, true)⟩,
      ⟨some 24, .call 95 [false, false] [.tmp 22, .tmp 23], some (21, true)⟩,
      ⟨some 25, .un .not (.tmp 24), some (21, true)⟩,
      ⟨some 26, .pick (.tmp 21) (.tmp 25) (.const (.bool false)), none⟩] [0, 1, 5, 6, 7, 26])
    (.cond (.tmp 26)
      (.seq (.region [
        ⟨some 27, .faddr (.tmp 7) 7, none⟩,
        ⟨none, .store (.tmp 27) (.const (.int .i64 2)) 1, none⟩] [0, 1, 5, 6, 7])
      (.region [
        ⟨some 28, .faddr (.tmp 7) 8, none⟩,
        ⟨none, .store (.tmp 28) (.const (.int .i64 0)) 1, none⟩] [0, 1, 5, 6, 7]))
      .skip))
    (.region [
      ⟨some 29, .mov (.tmp 5), none⟩,
      ⟨some 30, .load (.tmp 7) 11 true .plain, none⟩,
      ⟨some 31, .bslice 11 [.str ⟨#[]⟩, .int .i64 0, .str ⟨#[]⟩, .int .i64 0, .int .i64 0, .int .i64 0, .int .i64 0, .int .i64 0, .int .i64 0, .int .i64 0, .int .i64 0] 1 [(0, .tmp 30)], none⟩,
      ⟨some 32, .append 11 104 true (.tmp 29) (.tmp 31), none⟩,
      ⟨some 5, .mov (.tmp 32), none⟩] [0, 1, 5, 6]))))
  (.region [
    ⟨some 13, .mov (.tmp 6), none⟩,
    ⟨some 14, .bin .add (.tmp 13) (.const (.int .i64 1)), none⟩,
    ⟨some 6, .mov (.tmp 14), none⟩] [0, 1, 5, 6])))
def c20 : CFn := ⟨34, [.tmp 4],
  (.seq (.region [
    ⟨some 4, .mov (.const (.sl .own 11 [])), none⟩] [0, 1])
  (.seq (.region [
    ⟨some 8, .bslice 11 [.str ⟨#[]⟩, .int .i64 0, .str ⟨#[]⟩, .int .i64 0, .int .i64 0, .int .i64 0, .int .i64 0, .int .i64 0, .int .i64 0, .int .i64 0, .int .i64 0] 0 [], none⟩,
    ⟨some 5, .mov (.tmp 8), none⟩] [0, 1, 5])
  (.seq (.seq (.region [
    ⟨some 6, .mov (.const (.int .i64 0)), none⟩] [0, 1, 5, 6])
  (.block 0
    (.loop [0, 1, 5, 6] c20b0)))
  (.seq (.region [
    ⟨some 33, .mov (.tmp 5), none⟩,
    ⟨some 4, .mov (.tmp 33), none⟩] [4])
  .ret))))⟩
-- laws.szMateWant
def c79 : CFn := ⟨20, [.tmp 4],
  (.seq (.region [
    ⟨some 2, .box (.tmp 0), none⟩,
    ⟨some 4, .mov (.const (.int .i64 0)), none⟩] [1, 2])
  (.seq (.region [
    ⟨some 5, .mov (.tmp 1), none⟩,
    ⟨some 6, .faddr (.tmp 2) 0, none⟩,
    ⟨some 7, .load (.tmp 6) 1 false .plain, none⟩,
    ⟨some 8, .len true (.tmp 7), none⟩,
    ⟨some 9, .bin .sub (.tmp 5) (.tmp 8), none⟩,
    ⟨some 1, .mov (.tmp 9), none⟩] [1, 2])
  (.seq (.seq (.region [
    ⟨some 10, .mov (.tmp 1), none⟩,
    ⟨some 11, .bin .lss (.tmp 10) (.const (.int .i64 0)), none⟩] [1, 2, 11])
  (.cond (.tmp 11)
    (.seq (.region [
      ⟨some 4, .mov (.const (.int .i64 (-1))), none⟩] [4])
    .ret)
    .skip))
  (.seq (.region [
    ⟨some 12, .mov (.tmp 1), none⟩,
    ⟨some 13, .faddr (.tmp 2) 2, none⟩,
    ⟨some 14, .load (.tmp 13) 1 false .plain, none⟩,
    ⟨some 15, .len true (.tmp 14), none⟩,
    ⟨some 16, .bin .sub (.tmp 12) (.tmp 15), none⟩,
    ⟨some 1, .mov (.tmp 16), none⟩] [1])
  (.seq (.seq (.region [
    ⟨some 17, .mov (.tmp 1), none⟩,
    ⟨some 18, .bin .lss (.tmp 17) (.const (.int .i64 0)), none⟩] [1, 18])
  (.cond (.tmp 18)
    (.seq (.region [
      ⟨some 4, .mov (.const (.int .i64 (-1))), none⟩] [4])
    .ret)
    .skip))
  (.seq (.region [
    ⟨some 19, .mov (.tmp 1), none⟩,
    ⟨some 4, .mov (.tmp 19), none⟩] [4])
  .ret))))))⟩
-- laws.toMateWant
def c80 : CFn := ⟨26, [.cell 2 7 true],
  (.seq (.region [
    ⟨some 1, .box (.tmp 0), none⟩,
    ⟨some 2, .alloc [.str ⟨#[]⟩, .int .i64 0, .str ⟨#[]⟩, .int .i64 0, .int .i64 0, .int .i64 0, .int .i64 0], none⟩] [1, 2])
  (.seq (.region [
    ⟨some 3, .alloc [.str ⟨#[]⟩, .int .i64 0, .str ⟨#[]⟩, .int .i64 0, .int .i64 0, .int .i64 0, .int .i64 0], none⟩] [1, 2, 3])
  (.seq (.region [
    ⟨some 4, .faddr (.tmp 1) 0, none⟩,
    ⟨some 5, .load (.tmp 4) 1 false .plain, none⟩,
    ⟨some 6, .faddr (.tmp 3) 0, none⟩,
    ⟨none, .store (.tmp 6) (.tmp 5) 1, none⟩] [1, 2, 3])
  (.seq (.region [
    ⟨some 7, .faddr (.tmp 1) 1, none⟩,
    ⟨some 8, .load (.tmp 7) 1 false .plain, none⟩,
    ⟨some 9, .faddr (.tmp 3) 1, none⟩,
    ⟨none, .store (.tmp 9) (.tmp 8) 1, none⟩] [1, 2, 3])
  (.seq (.region [
    ⟨some 10, .faddr (.tmp 1) 2, none⟩,
    ⟨some 11, .load (.tmp 10) 1 false .plain, none⟩,
    ⟨some 12, .faddr (.tmp 3) 2, none⟩,
    ⟨none, .store (.tmp 12) (.tmp 11) 1, none⟩] [1, 2, 3])
  (.seq (.region [
    ⟨some 13, .faddr (.tmp 1) 3, none⟩,
    ⟨some 14, .load (.tmp 13) 1 false .plain, none⟩,
    ⟨some 15, .faddr (.tmp 3) 3, none⟩,
    ⟨none, .store (.tmp 15) (.tmp 14) 1, none⟩] [1, 2, 3])
  (.seq (.region [
    ⟨some 16, .faddr (.tmp 1) 4, none⟩,
    ⟨some 17, .load (.tmp 16) 1 false .plain, none⟩,
    ⟨some 18, .faddr (.tmp 3) 4, none⟩,
    ⟨none, .store (.tmp 18) (.tmp 17) 1, none⟩] [1, 2, 3])
  (.seq (.region [
    ⟨some 19, .faddr (.tmp 1) 5, none⟩,
    ⟨some 20, .load (.tmp 19) 1 false .plain, none⟩,
    ⟨some 21, .faddr (.tmp 3) 5, none⟩,
    ⟨none, .store (.tmp 21) (.tmp 20) 1, none⟩] [1, 2, 3])
  (.seq (.region [
    ⟨some 22, .faddr (.tmp 1) 6, none⟩,
    ⟨some 23, .load (.tmp 22) 1 false .plain, none⟩,
    ⟨some 24, .faddr (.tmp 3) 6, none⟩,
    ⟨none, .store (.tmp 24) (.tmp 23) 1, none⟩] [2, 3])
  (.seq (.region [
    ⟨some 25, .load (.tmp 3) 7 true .plain, none⟩,
    ⟨none, .store (.tmp 2) (.tmp 25) 7, none⟩] [2])
  .ret))))))))))⟩
-- laws.eqMateWant
def c83 : CFn := ⟨40, [.tmp 4],
  (.seq (.region [
    ⟨some 2, .box (.tmp 0), none⟩,
    ⟨some 3, .box (.tmp 1), none⟩,
    ⟨some 4, .mov (.const (.bool false)), none⟩] [2, 3])
  (.seq (.seq (.region [
    ⟨some 5, .faddr (.tmp 2) 0, none⟩,
    ⟨some 6, .load (.tmp 5) 1 false .plain, none⟩,
    ⟨some 7, .faddr (.tmp 3) 0, none⟩,
    ⟨some 8, .load (.tmp 7) 1 false .plain, none⟩,
    ⟨some 9, .bin .neq (.tmp 6) (.tmp 8), none⟩] [2, 3, 9])
  (.cond (.tmp 9)
    (.seq (.region [
      ⟨some 4, .mov (.const (.bool false)), none⟩] [4])
    .ret)
    .skip))
  (.seq (.seq (.region [
    ⟨some 10, .faddr (.tmp 2) 1, none⟩,
    ⟨some 11, .load (.tmp 10) 1 false .plain, none⟩,
    ⟨some 12, .faddr (.tmp 3) 1, none⟩,
    ⟨some 13, .load (.tmp 12) 1 false .plain, none⟩,
    ⟨some 14, .bin .neq (.tmp 11) (.tmp 13), none⟩] [2, 3, 14])
  (.cond (.tmp 14)
    (.seq (.region [
      ⟨some 4, .mov (.const (.bool false)), none⟩] [4])
    .ret)
    .skip))
  (.seq (.seq (.region [
    ⟨some 15, .faddr (.tmp 2) 2, none⟩,
    ⟨some 16, .load (.tmp 15) 1 false .plain, none⟩,
    ⟨some 17, .faddr (.tmp 3) 2, none⟩,
    ⟨some 18, .load (.tmp 17) 1 false .plain, none⟩,
    ⟨some 19, .bin .neq (.tmp 16) (.tmp 18), none⟩] [2, 3, 19])
  (.cond (.tmp 19)
    (.seq (.region [
      ⟨some 4, .mov (.const (.bool false)), none⟩] [4])
    .ret)
    .skip))
  (.seq (.seq (.region [
    ⟨some 20, .faddr (.tmp 2) 3, none⟩,
    ⟨some 21, .load (.tmp 20) 1 false .plain, none⟩,
    ⟨some 22, .faddr (.tmp 3) 3, none⟩,
    ⟨some 23, .load (.tmp 22) 1 false .plain, none⟩,
    ⟨some 24, .bin .neq (.tmp 21) (.tmp 23), none⟩] [2, 3, 24])
  (.cond (.tmp 24)
    (.seq (.region [
      ⟨some 4, .mov (.const (.bool false)), none⟩] [4])
    .ret)
    .skip))
  (.seq (.seq (.region [
    ⟨some 25, .faddr (.tmp 2) 4, none⟩,
    ⟨some 26, .load (.tmp 25) 1 false .plain, none⟩,
    ⟨some 27, .faddr (.tmp 3) 4, none⟩,
    ⟨some 28, .load (.tmp 27) 1 false .plain, none⟩,
    ⟨some 29, .bin .neq (.tmp 26) (.tmp 28), none⟩] [2, 3, 29])
  (.cond (.tmp 29)
    (.seq (.region [
      ⟨some 4, .mov (.const (.bool false)), none⟩] [4])
    .ret)
    .skip))
  (.seq (.seq (.region [
    ⟨some 30, .faddr (.tmp 2) 5, none⟩,
    ⟨some 31, .load (.tmp 30) 1 false .plain, none⟩,
    ⟨some 32, .faddr (.tmp 3) 5, none⟩,
    ⟨some 33, .load (.tmp 32) 1 false .plain, none⟩,
    ⟨some 34, .bin .neq (.tmp 31) (.tmp 33), none⟩] [2, 3, 34])
  (.cond (.tmp 34)
    (.seq (.region [
      ⟨some 4, .mov (.const (.bool false)), none⟩] [4])
    .ret)
    .skip))
  (.seq (.seq (.region [
    ⟨some 35, .faddr (.tmp 2) 6, none⟩,
    ⟨some 36, .load (.tmp 35) 1 false .plain, none⟩,
    ⟨some 37, .faddr (.tmp 3) 6, none⟩,
    ⟨some 38, .load (.tmp 37) 1 false .plain, none⟩,
    ⟨some 39, .bin .neq (.tmp 36) (.tmp 38), none⟩] [39])
  (.cond (.tmp 39)
    (.seq (.region [
      ⟨some 4, .mov (.const (.bool false)), none⟩] [4])
    .ret)
    .skip))
  (.seq (.region [
    ⟨some 4, .mov (.const (.bool true)), none⟩] [4])
  .ret)))))))))⟩
-- laws.eqMateRun
def c86 : CFn := ⟨31, [.tmp 4],
  (.seq (.region [
    ⟨some 2, .box (.tmp 0), none⟩,
    ⟨some 3, .box (.tmp 1), none⟩,
    ⟨some 4, .mov (.const (.bool false)), none⟩] [2, 3])
  (.seq (.seq (.region [
    ⟨some 5, .faddr (.tmp 2) 0, none⟩,
    ⟨some 6, .load (.tmp 5) 7 true .plain, none⟩,
    ⟨some 7, .faddr (.tmp 3) 0, none⟩,
    ⟨some 8, .load (.tmp 7) 7 true .plain, none⟩,
    ⟨some 9, .call 83 [false, false] [.tmp 6, .tmp 8], none⟩,
    ⟨some 10, .un .not (.tmp 9), none⟩] [2, 3, 10])
  (.cond (.tmp 10)
    (.seq (.region [
      ⟨some 4, .mov (.const (.bool false)), none⟩] [4])
    .ret)
    .skip))
  (.seq (.seq (.region [
    ⟨some 11, .faddr (.tmp 2) 7, none⟩,
    ⟨some 12, .load (.tmp 11) 1 false .plain, none⟩,
    ⟨some 13, .faddr (.tmp 3) 7, none⟩,
    ⟨some 14, .load (.tmp 13) 1 false .plain, none⟩,
    ⟨some 15, .bin .neq (.tmp 12) (.tmp 14), none⟩] [2, 3, 15])
  (.cond (.tmp 15)
    (.seq (.region [
      ⟨some 4, .mov (.const (.bool false)), none⟩] [4])
    .ret)
    .skip))
  (.seq (.seq (.region [
    ⟨some 16, .faddr (.tmp 2) 8, none⟩,
    ⟨some 17, .load (.tmp 16) 1 false .plain, none⟩,
    ⟨some 18, .faddr (.tmp 3) 8, none⟩,
    ⟨some 19, .load (.tmp 18) 1 false .plain, none⟩,
    ⟨some 20, .bin .neq (.tmp 17) (.tmp 19), none⟩] [2, 3, 20])
  (.cond (.tmp 20)
    (.seq (.region [
      ⟨some 4, .mov (.const (.bool false)), none⟩] [4])
    .ret)
    .skip))
  (.seq (.seq (.region [
    ⟨some 21, .faddr (.tmp 2) 9, none⟩,
    ⟨some 22, .load (.tmp 21) 1 false .plain, none⟩,
    ⟨some 23, .faddr (.tmp 3) 9, none⟩,
    ⟨some 24, .load (.tmp 23) 1 false .plain, none⟩,
    ⟨some 25, .bin .neq (.tmp 22) (.tmp 24), none⟩] [2, 3, 25])
  (.cond (.tmp 25)
    (.seq (.region [
      ⟨some 4, .mov (.const (.bool false)), none⟩] [4])
    .ret)
    .skip))
  (.seq (.seq (.region [
    ⟨some 26, .faddr (.tmp 2) 10, none⟩,
    ⟨some 27, .load (.tmp 26) 1 false .plain, none⟩,
    ⟨some 28, .faddr (.tmp 3) 10, none⟩,
    ⟨some 29, .load (.tmp 28) 1 false .plain, none⟩,
    ⟨some 30, .bin .neq (.tmp 27) (.tmp 29), none⟩] [30])
  (.cond (.tmp 30)
    (.seq (.region [
      ⟨some 4, .mov (.const (.bool false)), none⟩] [4])
    .ret)
    .skip))
  (.seq (.region [
    ⟨some 4, .mov (.const (.bool true)), none⟩] [4])
  .ret)))))))⟩
-- spec.l2Leased
def c95 : CFn := ⟨16, [.tmp 4],
  (.seq (.region [
    ⟨some 2, .box (.tmp 0), none⟩,
    ⟨some 4, .mov (.const (.bool false)), none⟩] [1, 2])
  (.seq (.region [
    ⟨some 5, .faddr (.tmp 2) 0, none⟩,
    ⟨some 6, .faddr (.tmp 5) 2, none⟩,
    ⟨some 7, .load (.tmp 6) 1 false .plain, none⟩,
    ⟨some 8, .bin .eql (.tmp 7) (.const (.str ⟨#[]⟩)), none⟩,
    ⟨some 9, .mov (.tmp 8), none⟩,
    ⟨some 10, .faddr (.tmp 2) 10, some (9, false)⟩,
    ⟨some 11, .load (.tmp 10) 1 false .plain, some (9, false)⟩,
    ⟨some 12, .mov (.tmp 1), some (9, false)⟩,
    ⟨some 13, .bin .add (.tmp 12) (.const (.int .i64 4)), some (9, false)⟩,
    ⟨some 14, .bin .geq (.tmp 11) (.tmp 13), some (9, false)⟩,
    ⟨some 15, .pick (.tmp 9) (.const (.bool true)) (.tmp 14), none⟩,
    ⟨some 4, .mov (.tmp 15), none⟩] [4])
  .ret))⟩
-- laws.markText
def c96b0 : CCode := (.seq (.seq (.region [
    ⟨some 6, .mov (.tmp 0), none⟩,
    ⟨some 7, .bin .gtr (.tmp 6) (.const (.int .i64 0)), none⟩] [0, 3, 7])
  (.cond (.tmp 7)
    .skip
    (.exit 0)))
  (.block 1
    (.seq (.region [
      ⟨some 8, .mov (.tmp 0), none⟩,
      ⟨some 9, .bin .rem (.tmp 8) (.const (.int .i64 10)), none⟩,
      ⟨some 10, .bin .add (.const (.int .i64 48)) (.tmp 9), none⟩,
      ⟨some 11, .conv .u8 (.tmp 10), none⟩,
      ⟨some 12, .bslice 1 [.int .u8 0] 1 [(0, .tmp 11)], none⟩,
      ⟨some 13, .toStr (.tmp 12), none⟩,
      ⟨some 14, .mov (.tmp 3), none⟩,
      ⟨some 15, .bin .add (.tmp 13) (.tmp 14), none⟩,
      ⟨some 3, .mov (.tmp 15), none⟩] [0, 3])
    (.region [
      ⟨some 16, .mov (.tmp 0), none⟩,
      ⟨some 17, .bin .quo (.tmp 16) (.const (.int .i64 10)), none⟩,
      ⟨some 0, .mov (.tmp 17), none⟩] [0, 3]))))
def c96 : CFn := ⟨20, [.tmp 2],
  (.seq (.region [
    ⟨some 2, .mov (.const (.str ⟨#[]⟩)), none⟩] [0])
  (.seq (.seq (.region [
    ⟨some 4, .mov (.tmp 0), none⟩,
    ⟨some 5, .bin .leq (.tmp 4) (.const (.int .i64 0)), none⟩] [0, 5])
  (.cond (.tmp 5)
    (.seq (.region [
      ⟨some 2, .mov (.const (.str ⟨#[109, 48]⟩)), none⟩] [2])
    .ret)
    .skip))
  (.seq (.region [
    ⟨some 3, .mov (.const (.str ⟨#[]⟩)), none⟩] [0, 3])
  (.seq (.block 0
    (.loop [0, 3] c96b0))
  (.seq (.region [
    ⟨some 18, .mov (.tmp 3), none⟩,
    ⟨some 19, .bin .add (.const (.str ⟨#[109]⟩)) (.tmp 18), none⟩,
    ⟨some 2, .mov (.tmp 19), none⟩] [2])
  .ret)))))⟩
-- laws.FnExactMateWatchdog
def c168 : CFn := ⟨74, [.tmp 4],
  (.seq (.region [
    ⟨some 4, .mov (.const (.bool false)), none⟩] [0, 1])
  (.seq (.region [
    ⟨some 5, .mov (.const (.int .i64 1048576)), none⟩] [0, 1, 5])
  (.seq (.region [
    ⟨some 13, .mov (.tmp 0), none⟩,
    ⟨some 14, .mov (.tmp 5), none⟩,
    ⟨some 15, .call 13 [false, false] [.tmp 13, .tmp 14], none⟩,
    ⟨some 5, .mov (.tmp 15), none⟩] [0, 1, 5])
  (.seq (.seq (.region [
    ⟨some 16, .mov (.tmp 5), none⟩,
    ⟨some 17, .bin .lss (.tmp 16) (.const (.int .i64 0)), none⟩] [0, 1, 17])
  (.cond (.tmp 17)
    (.seq (.region [
      ⟨some 4, .mov (.const (.bool true)), none⟩] [4])
    .ret)
    .skip))
  (.seq (.region [
    ⟨some 18, .mov (.tmp 0), none⟩,
    ⟨some 19, .call 9 [false] [.tmp 18], none⟩,
    ⟨some 20, .mov (.tmp 1), none⟩,
    ⟨some 21, .call 20 [false, false] [.tmp 19, .tmp 20], none⟩,
    ⟨some 6, .mov (.tmp 21), none⟩] [0, 1, 6])
  (.seq (.region [
    ⟨some 22, .mov (.tmp 0), none⟩,
    ⟨some 23, .call 9 [false] [.tmp 22], none⟩,
    ⟨some 7, .mov (.tmp 23), none⟩] [0, 1, 6, 7])
  (.seq (.region [
    ⟨some 24, .mov (.tmp 7), none⟩,
    ⟨some 25, .mov (.tmp 1), none⟩,
    ⟨some 26, .call 18 [false, false] [.tmp 24, .tmp 25], none⟩,
    ⟨some 8, .mov (.tmp 26), none⟩] [0, 1, 6, 7, 8])
  (.seq (.seq (.region [
    ⟨some 27, .mov (.tmp 8), none⟩,
    ⟨some 28, .mov (.tmp 6), none⟩,
    ⟨some 29, .call 10 [false, false] [.tmp 27, .tmp 28], none⟩,
    ⟨some 30, .un .not (.tmp 29), none⟩] [0, 1, 6, 7, 8, 30])
  (.cond (.tmp 30)
    (.seq (.region [
      ⟨some 4, .mov (.const (.bool false)), none⟩] [4])
    .ret)
    .skip))
  (.seq (.seq (.region [
    ⟨some 31, .mov (.tmp 7), none⟩,
    ⟨some 32, .mov (.tmp 0), none⟩,
    ⟨some 33, .call 9 [false] [.tmp 32], none⟩,
    ⟨some 34, .call 10 [false, false] [.tmp 31, .tmp 33], none⟩,
    ⟨some 35, .un .not (.tmp 34), none⟩] [0, 1, 6, 7, 8, 35])
  (.cond (.tmp 35)
    (.seq (.region [
      ⟨some 4, .mov (.const (.bool false)), none⟩] [4])
    .ret)
    .skip))
  (.seq (.region [
    ⟨some 9, .mov (.const (.int .i64 1)), none⟩] [0, 1, 6, 7, 8, 9])
  (.seq (.region [
    ⟨some 36, .mov (.tmp 7), none⟩,
    ⟨some 37, .mov (.tmp 9), none⟩,
    ⟨some 38, .call 19 [true, false] [.tmp 36, .tmp 37], none⟩,
    ⟨some 9, .mov (.tmp 38), none⟩] [0, 1, 6, 8, 9])
  (.seq (.seq (.region [
    ⟨some 39, .mov (.tmp 9), none⟩,
    ⟨some 40, .bin .lss (.tmp 39) (.const (.int .i64 0)), none⟩,
    ⟨some 41, .mov (.tmp 40), none⟩,
    ⟨some 42, .mov (.tmp 8), some (41, false)⟩,
    ⟨some 43, .mov (.tmp 6), some (41, false)⟩,
    ⟨some 44, .call 10 [false, false] [.tmp 42, .tmp 43], some (41, false)⟩,
    ⟨some 45, .un .not (.tmp 44), some (41, false)⟩,
    ⟨some 46, .pick (.tmp 41) (.const (.bool true)) (.tmp 45), none⟩] [0, 1, 6, 8, 46])
  (.cond (.tmp 46)
    (.seq (.region [
      ⟨some 4, .mov (.const (.bool false)), none⟩] [4])
    .ret)
    .skip))
  (.seq (.region [
    ⟨some 10, .mov (.const (.int .i64 1)), none⟩] [0, 1, 6, 8, 10])
  (.seq (.region [
    ⟨some 47, .mov (.tmp 8), none⟩,
    ⟨some 48, .mov (.tmp 10), none⟩,
    ⟨some 49, .call 19 [true, false] [.tmp 47, .tmp 48], none⟩,
    ⟨some 10, .mov (.tmp 49), none⟩] [0, 1, 6, 8, 10])
  (.seq (.region [
    ⟨some 11, .mov (.const (.int .i64 1)), none⟩] [0, 1, 6, 8, 10, 11])
  (.seq (.region [
    ⟨some 50, .mov (.tmp 8), none⟩,
    ⟨some 51, .mov (.tmp 11), none⟩,
    ⟨some 52, .call 17 [false, false] [.tmp 50, .tmp 51], none⟩,
    ⟨some 11, .mov (.tmp 52), none⟩] [0, 1, 6, 8, 10, 11])
  (.seq (.seq (.region [
    ⟨some 53, .mov (.tmp 11), none⟩,
    ⟨some 54, .bin .lss (.tmp 53) (.const (.int .i64 0)), none⟩] [0, 1, 6, 8, 10, 11, 54])
  (.cond (.tmp 54)
    (.seq (.region [
      ⟨some 4, .mov (.const (.bool false)), none⟩] [4])
    .ret)
    .skip))
  (.seq (.seq (.region [
    ⟨some 55, .mov (.tmp 11), none⟩,
    ⟨some 56, .mov (.tmp 10), none⟩,
    ⟨some 57, .bin .neq (.tmp 55) (.tmp 56), none⟩] [0, 1, 6, 8, 10, 57])
  (.cond (.tmp 57)
    (.seq (.region [
      ⟨some 4, .mov (.const (.bool false)), none⟩] [4])
    .ret)
    .skip))
  (.seq (.region [
    ⟨some 58, .mov (.tmp 0), none⟩,
    ⟨some 59, .call 9 [false] [.tmp 58], none⟩,
    ⟨some 60, .mov (.tmp 1), none⟩,
    ⟨some 61, .call 18 [false, false] [.tmp 59, .tmp 60], none⟩,
    ⟨some 12, .mov (.tmp 61), none⟩] [6, 8, 10, 12])
  (.seq (.seq (.region [
    ⟨some 62, .mov (.tmp 12), none⟩,
    ⟨some 63, .mov (.tmp 6), none⟩,
    ⟨some 64, .call 10 [false, false] [.tmp 62, .tmp 63], none⟩,
    ⟨some 65, .un .not (.tmp 64), none⟩] [8, 10, 65])
  (.cond (.tmp 65)
    (.seq (.region [
      ⟨some 4, .mov (.const (.bool false)), none⟩] [4])
    .ret)
    .skip))
  (.seq (.region [
    ⟨some 11, .mov (.const (.int .i64 1)), none⟩] [8, 10, 11])
  (.seq (.region [
    ⟨some 66, .mov (.tmp 8), none⟩,
    ⟨some 67, .mov (.tmp 11), none⟩,
    ⟨some 68, .call 17 [false, false] [.tmp 66, .tmp 67], none⟩,
    ⟨some 11, .mov (.tmp 68), none⟩] [10, 11])
  (.seq (.seq (.region [
    ⟨some 69, .mov (.tmp 11), none⟩,
    ⟨some 70, .bin .lss (.tmp 69) (.const (.int .i64 0)), none⟩] [10, 11, 70])
  (.cond (.tmp 70)
    (.seq (.region [
      ⟨some 4, .mov (.const (.bool false)), none⟩] [4])
    .ret)
    .skip))
  (.seq (.seq (.region [
    ⟨some 71, .mov (.tmp 11), none⟩,
    ⟨some 72, .mov (.tmp 10), none⟩,
    ⟨some 73, .bin .neq (.tmp 71) (.tmp 72), none⟩] [73])
  (.cond (.tmp 73)
    (.seq (.region [
      ⟨some 4, .mov (.const (.bool false)), none⟩] [4])
    .ret)
    .skip))
  (.seq (.region [
    ⟨some 4, .mov (.const (.bool true)), none⟩] [4])
  .ret)))))))))))))))))))))))))⟩
/-- The functions' own table. -/
def codeOf (k : Nat) : Option CFn :=
  match k with
  | 0 => some c0
  | 1 => some c1
  | 2 => some c2
  | 3 => some c3
  | 9 => some c9
  | 10 => some c10
  | 13 => some c13
  | 17 => some c17
  | 18 => some c18
  | 19 => some c19
  | 20 => some c20
  | 79 => some c79
  | 80 => some c80
  | 83 => some c83
  | 86 => some c86
  | 95 => some c95
  | 96 => some c96
  | 168 => some c168
  | _ => none
def prim : Callee := fun _ _ _ => none
def P : CProg := ⟨codeOf, prim⟩
@[simp] theorem fn0 : P.fn 0 = some c0 := rfl
@[simp] theorem fn1 : P.fn 1 = some c1 := rfl
@[simp] theorem fn2 : P.fn 2 = some c2 := rfl
@[simp] theorem fn3 : P.fn 3 = some c3 := rfl
@[simp] theorem fn9 : P.fn 9 = some c9 := rfl
@[simp] theorem fn10 : P.fn 10 = some c10 := rfl
@[simp] theorem fn13 : P.fn 13 = some c13 := rfl
@[simp] theorem fn17 : P.fn 17 = some c17 := rfl
@[simp] theorem fn18 : P.fn 18 = some c18 := rfl
@[simp] theorem fn19 : P.fn 19 = some c19 := rfl
@[simp] theorem fn20 : P.fn 20 = some c20 := rfl
@[simp] theorem fn79 : P.fn 79 = some c79 := rfl
@[simp] theorem fn80 : P.fn 80 = some c80 := rfl
@[simp] theorem fn83 : P.fn 83 = some c83 := rfl
@[simp] theorem fn86 : P.fn 86 = some c86 := rfl
@[simp] theorem fn95 : P.fn 95 = some c95 := rfl
@[simp] theorem fn96 : P.fn 96 = some c96 := rfl
@[simp] theorem fn168 : P.fn 168 = some c168 := rfl
end Go.Proofs.Ytpicbkaloefjeaa
