/- The abstract code of the program's functions, printed by a program of ours out of Lean's own print of the translation. -/
import Derived.Test.YtgeingajanamnaaAv
namespace Go.Proofs.Ytgeingajanamnaa
open Go
-- laws.toMateRun
def c0 : CFn := ⟨21, [.cell 2 11 true],
  (.seq (.region [
    ⟨some 1, .box (.tmp 0), none⟩,
    ⟨some 2, .alloc [.str ⟨#[]⟩, .int .i64 0, .str ⟨#[]⟩, .int .i64 0, .int .i64 0, .int .i64 0, .int .i64 0, .int .i64 0, .int .i64 0, .int .i64 0, .int .i64 0], none⟩] [1, 2])
  (.seq (.region [
    ⟨some 3, .alloc [.str ⟨#[]⟩, .int .i64 0, .str ⟨#[]⟩, .int .i64 0, .int .i64 0, .int .i64 0, .int .i64 0, .int .i64 0, .int .i64 0, .int .i64 0, .int .i64 0], none⟩] [1, 2, 3])
  (.seq (.region [
    ⟨some 4, .faddr (.tmp 1) 0, none⟩,
    ⟨some 5, .load (.tmp 4) 7 true .plain, none⟩,
    ⟨some 6, .call 80 [false] [.tmp 5], none⟩,
    ⟨some 7, .faddr (.tmp 3) 0, none⟩,
    ⟨none, .store (.tmp 7) (.tmp 6) 7, none⟩] [1, 2, 3])
  (.seq (.region [
    ⟨some 8, .faddr (.tmp 1) 7, none⟩,
    ⟨some 9, .load (.tmp 8) 1 false .plain, none⟩,
    ⟨some 10, .faddr (.tmp 3) 7, none⟩,
    ⟨none, .store (.tmp 10) (.tmp 9) 1, none⟩] [1, 2, 3])
  (.seq (.region [
    ⟨some 11, .faddr (.tmp 1) 8, none⟩,
    ⟨some 12, .load (.tmp 11) 1 false .plain, none⟩,
    ⟨some 13, .faddr (.tmp 3) 8, none⟩,
    ⟨none, .store (.tmp 13) (.tmp 12) 1, none⟩] [1, 2, 3])
  (.seq (.region [
    ⟨some 14, .faddr (.tmp 1) 9, none⟩,
    ⟨some 15, .load (.tmp 14) 1 false .plain, none⟩,
    ⟨some 16, .faddr (.tmp 3) 9, none⟩,
    ⟨none, .store (.tmp 16) (.tmp 15) 1, none⟩] [1, 2, 3])
  (.seq (.region [
    ⟨some 17, .faddr (.tmp 1) 10, none⟩,
    ⟨some 18, .load (.tmp 17) 1 false .plain, none⟩,
    ⟨some 19, .faddr (.tmp 3) 10, none⟩,
    ⟨none, .store (.tmp 19) (.tmp 18) 1, none⟩] [2, 3])
  (.seq (.region [
    ⟨some 20, .load (.tmp 3) 11 true .plain, none⟩,
    ⟨none, .store (.tmp 2) (.tmp 20) 11, none⟩] [2])
  .ret))))))))⟩
-- impl.MateAlive
def c1 : CFn := ⟨16, [.tmp 2],
  (.seq (.region [
    ⟨some 1, .box (.tmp 0), none⟩,
    ⟨some 2, .mov (.const (.bool false)), none⟩] [1])
  (.seq (.region [
    ⟨some 3, .faddr (.tmp 1) 7, none⟩,
    ⟨some 4, .load (.tmp 3) 1 false .plain, none⟩,
    ⟨some 5, .bin .eql (.tmp 4) (.const (.int .i64 3)), none⟩,
    ⟨some 6, .mov (.tmp 5), none⟩,
    ⟨some 7, .faddr (.tmp 1) 7, some (6, false)⟩,
    ⟨some 8, .load (.tmp 7) 1 false .plain, some (6, false)⟩,
    ⟨some 9, .bin .eql (.tmp 8) (.const (.int .i64 4)), some (6, false)⟩,
    ⟨some 10, .pick (.tmp 6) (.const (.bool true)) (.tmp 9), none⟩,
    ⟨some 11, .mov (.tmp 10), none⟩,
    ⟨some 12, .faddr (.tmp 1) 7, some (11, false)⟩,
    ⟨some 13, .load (.tmp 12) 1 false .plain, some (11, false)⟩,
    ⟨some 14, .bin .eql (.tmp 13) (.const (.int .i64 6)), some (11, false)⟩,
    ⟨some 15, .pick (.tmp 11) (.const (.bool true)) (.tmp 14), none⟩,
    ⟨some 2, .mov (.tmp 15), none⟩] [2])
  .ret))⟩
-- spec.MateAlive
def c2 : CFn := ⟨16, [.tmp 2],
  (.seq (.region [
    ⟨some 1, .box (.tmp 0), none⟩,
    ⟨some 2, .mov (.const (.bool false)), none⟩] [1])
  (.seq (.region [
    ⟨some 3, .faddr (.tmp 1) 7, none⟩,
    ⟨some 4, .load (.tmp 3) 1 false .plain, none⟩,
    ⟨some 5, .bin .eql (.tmp 4) (.const (.int .i64 3)), none⟩,
    ⟨some 6, .mov (.tmp 5), none⟩,
    ⟨some 7, .faddr (.tmp 1) 7, some (6, false)⟩,
    ⟨some 8, .load (.tmp 7) 1 false .plain, some (6, false)⟩,
    ⟨some 9, .bin .eql (.tmp 8) (.const (.int .i64 4)), some (6, false)⟩,
    ⟨some 10, .pick (.tmp 6) (.const (.bool true)) (.tmp 9), none⟩,
    ⟨some 11, .mov (.tmp 10), none⟩,
    ⟨some 12, .faddr (.tmp 1) 7, some (11, false)⟩,
    ⟨some 13, .load (.tmp 12) 1 false .plain, some (11, false)⟩,
    ⟨some 14, .bin .eql (.tmp 13) (.const (.int .i64 6)), some (11, false)⟩,
    ⟨some 15, .pick (.tmp 11) (.const (.bool true)) (.tmp 14), none⟩,
    ⟨some 2, .mov (.tmp 15), none⟩] [2])
  .ret))⟩
-- laws.szMateRun
def c3 : CFn := ⟨12, [.tmp 4],
  (.seq (.region [
    ⟨some 2, .box (.tmp 0), none⟩,
    ⟨some 4, .mov (.const (.int .i64 0)), none⟩] [1, 2])
  (.seq (.region [
    ⟨some 5, .faddr (.tmp 2) 0, none⟩,
    ⟨some 6, .load (.tmp 5) 7 true .plain, none⟩,
    ⟨some 7, .mov (.tmp 1), none⟩,
    ⟨some 8, .call 79 [false, false] [.tmp 6, .tmp 7], none⟩,
    ⟨some 1, .mov (.tmp 8), none⟩] [1])
  (.seq (.seq (.region [
    ⟨some 9, .mov (.tmp 1), none⟩,
    ⟨some 10, .bin .lss (.tmp 9) (.const (.int .i64 0)), none⟩] [1, 10])
  (.cond (.tmp 10)
    (.seq (.region [
      ⟨some 4, .mov (.const (.int .i64 (-1))), none⟩] [4])
    .ret)
    .skip))
  (.seq (.region [
    ⟨some 11, .mov (.tmp 1), none⟩,
    ⟨some 4, .mov (.tmp 11), none⟩] [4])
  .ret))))⟩
-- laws.toMateWantS
def c4b0 : CCode := (.seq (.seq (.region [
    ⟨some 8, .mov (.tmp 4), none⟩,
    ⟨some 9, .mov (.tmp 0), none⟩,
    ⟨some 10, .len false (.tmp 9), none⟩,
    ⟨some 11, .bin .lss (.tmp 8) (.tmp 10), none⟩] [0, 3, 4, 11])
  (.cond (.tmp 11)
    .skip
    (.exit 0)))
  (.seq (.block 1
    (.region [
      ⟨some 14, .mov (.tmp 3), none⟩,
      ⟨some 15, .mov (.tmp 4), none⟩,
      ⟨some 16, .mov (.tmp 0), none⟩,
      ⟨some 17, .mov (.tmp 4), none⟩,
      ⟨some 18, .iaddr 7 (.tmp 16) (.tmp 17), none⟩,
      ⟨some 19, .load (.tmp 18) 7 true .plain, none⟩,
      ⟨some 20, .call 80 [false] [.tmp 19], none⟩,
      ⟨some 21, .iaddr 7 (.tmp 14) (.tmp 15), none⟩,
      ⟨none, .store (.tmp 21) (.tmp 20) 7, none⟩] [0, 3, 4]))
  (.region [
    ⟨some 12, .mov (.tmp 4), none⟩,
    ⟨some 13, .bin .add (.tmp 12) (.const (.int .i64 1)), none⟩,
    ⟨some 4, .mov (.tmp 13), none⟩] [0, 3, 4])))
def c4 : CFn := ⟨23, [.tmp 2],
  (.seq (.region [
    ⟨some 2, .mov (.const (.sl .own 7 [])), none⟩] [0])
  (.seq (.region [
    ⟨some 5, .mov (.tmp 0), none⟩,
    ⟨some 6, .len false (.tmp 5), none⟩,
    ⟨some 7, .mksl 7 [.str ⟨#[]⟩, .int .i64 0, .str ⟨#[]⟩, .int .i64 0, .int .i64 0, .int .i64 0, .int .i64 0] 72 (.tmp 6), none⟩,
    ⟨some 3, .mov (.tmp 7), none⟩] [0, 3])
  (.seq (.seq (.region [
    ⟨some 4, .mov (.const (.int .i64 0)), none⟩] [0, 3, 4])
  (.block 0
    (.loop [0, 3, 4] c4b0)))
  (.seq (.region [
    ⟨some 22, .mov (.tmp 3), none⟩,
    ⟨some 2, .mov (.tmp 22), none⟩] [2])
  .ret))))⟩
-- laws.eqMateWantS
def c5b0 : CCode := (.seq (.seq (.region [
    ⟨some 11, .mov (.tmp 5), none⟩,
    ⟨some 12, .mov (.tmp 0), none⟩,
    ⟨some 13, .len false (.tmp 12), none⟩,
    ⟨some 14, .bin .lss (.tmp 11) (.tmp 13), none⟩] [0, 1, 5, 14])
  (.cond (.tmp 14)
    .skip
    (.exit 0)))
  (.seq (.block 1
    (.seq (.quiet [
      ⟨some 17, .mov (.tmp 0), none⟩,
      ⟨some 18, .mov (.tmp 5), none⟩,
      ⟨some 19, .iaddr 7 (.tmp 17) (.tmp 18), none⟩,
      ⟨some 20, .load (.tmp 19) 7 true .plain, none⟩,
      ⟨some 21, .mov (.tmp 1), none⟩,
      ⟨some 22, .mov (.tmp 5), none⟩,
      ⟨some 23, .iaddr 7 (.tmp 21) (.tmp 22), none⟩,
      ⟨some 24, .load (.tmp 23) 7 true .plain, none⟩,
      ⟨some 25, .call 83 [false, false] [.tmp 20, .tmp 24], none⟩,
      ⟨some 26, .un .not (.tmp 25), none⟩] [0, 1, 5, 26])
    (.cond (.tmp 26)
      (.seq (.region [
        ⟨some 4, .mov (.const (.bool false)), none⟩] [4])
      .ret)
      .skip)))
  (.region [
    ⟨some 15, .mov (.tmp 5), none⟩,
    ⟨some 16, .bin .add (.tmp 15) (.const (.int .i64 1)), none⟩,
    ⟨some 5, .mov (.tmp 16), none⟩] [0, 1, 5])))
def c5 : CFn := ⟨27, [.tmp 4],
  (.seq (.region [
    ⟨some 4, .mov (.const (.bool false)), none⟩] [0, 1])
  (.seq (.seq (.region [
    ⟨some 6, .mov (.tmp 0), none⟩,
    ⟨some 7, .len false (.tmp 6), none⟩,
    ⟨some 8, .mov (.tmp 1), none⟩,
    ⟨some 9, .len false (.tmp 8), none⟩,
    ⟨some 10, .bin .neq (.tmp 7) (.tmp 9), none⟩] [0, 1, 10])
  (.cond (.tmp 10)
    (.seq (.region [
      ⟨some 4, .mov (.const (.bool false)), none⟩] [4])
    .ret)
    .skip))
  (.seq (.seq (.region [
    ⟨some 5, .mov (.const (.int .i64 0)), none⟩] [0, 1, 5])
  (.block 0
    (.loop [0, 1, 5] c5b0)))
  (.seq (.region [
    ⟨some 4, .mov (.const (.bool true)), none⟩] [4])
  .ret))))⟩
-- impl.MateWantsOk
def c6b0 : CCode := (.seq (.region [
    ⟨some 10, .bin .lss (.tmp 9) (.tmp 8), none⟩] [0, 3, 7, 8, 9, 10])
  (.seq (.cond (.tmp 10)
    .skip
    (.exit 0))
  (.seq (.block 1
    (.seq (.region [
      ⟨some 11, .mov (.tmp 9), none⟩,
      ⟨some 12, .iaddr 7 (.tmp 7) (.tmp 9), none⟩,
      ⟨some 13, .load (.tmp 12) 7 true .plain, none⟩,
      ⟨some 5, .alloc [.str ⟨#[]⟩, .int .i64 0, .str ⟨#[]⟩, .int .i64 0, .int .i64 0, .int .i64 0, .int .i64 0], none⟩,
      ⟨some 4, .mov (.tmp 11), none⟩,
      ⟨none, .store (.tmp 5) (.tmp 13) 7, none⟩] [0, 3, 4, 5, 7, 8, 9])
    (.seq (.seq (.quiet [
      ⟨some 14, .load (.tmp 5) 7 true .plain, none⟩,
      ⟨some 15, .call 82 [false] [.tmp 14], none⟩,
      ⟨some 16, .un .not (.tmp 15), none⟩,
      ⟨some 17, .mov (.tmp 16), none⟩,
      ⟨some 18, .mov (.tmp 4), some (17, false)⟩,
      ⟨some 19, .bin .gtr (.tmp 18) (.const (.int .i64 0)), some (17, false)⟩,
      ⟨some 20, .mov (.tmp 19), some (17, false)⟩,
      ⟨some 21, .mov (.tmp 0), some (20, true)⟩,
      ⟨some 22, .mov (.tmp 4), some (20, true)⟩,
      ⟨some 23, .bin .sub (.tmp 22) (.const (.int .i64 1)), some (20, true)⟩,
      ⟨some 24, .iaddr 7 (.tmp 21) (.tmp 23), some (20, true)⟩,
      ⟨some 25, .faddr (.tmp 24) 0, some (20, true)⟩,
      ⟨some 26, .load (.tmp 25) 1 false .plain, some (20, true)⟩,
      ⟨some 27, .faddr (.tmp 5) 0, some (20, true)⟩,
      ⟨some 28, .load (.tmp 27) 1 false .plain, some (20, true)⟩,
      ⟨some 29, .bin .geq (.tmp 26) (.tmp 28), some (20, true)⟩,
      ⟨some 30, .pick (.tmp 20) (.tmp 29) (.const (.bool false)), some (17, false)⟩,
      ⟨some 31, .pick (.tmp 17) (.const (.bool true)) (.tmp 30), none⟩,
      ⟨some 32, .mov (.tmp 31), none⟩,
      ⟨some 33, .faddr (.tmp 5) 2, some (32, false)⟩,
      ⟨some 34, .load (.tmp 33) 1 false .plain, some (32, false)⟩,
      ⟨some 35, .bin .neq (.tmp 34) (.const (.str ⟨#[]⟩)), some (32, false)⟩,
      ⟨some 36, .mov (.tmp 35), some (32, false)⟩,
      ⟨some 37, .mov (.tmp 3), some (36, true)⟩,
      ⟨some 38, .faddr (.tmp 5) 2, some (36, true)⟩,
      ⟨some 39, .load (.tmp 38) 1 false .plain, some (36, true)⟩,
      ⟨some 40, .lookup (.bool false) (.tmp 37) (.tmp 39), some (36, true)⟩,
      ⟨some 41, .pick (.tmp 36) (.tmp 40) (.const (.bool false)), some (32, false)⟩,
      ⟨some 42, .pick (.tmp 32) (.const (.bool true)) (.tmp 41), none⟩] [0, 3, 5, 7, 8, 9, 42])
    (.cond (.tmp 42)
      (.seq (.region [
        ⟨some 2, .mov (.const (.bool false)), none⟩] [2])
      .ret)
      .skip))
    (.region [
      ⟨some 43, .mov (.tmp 3), none⟩,
      ⟨some 44, .faddr (.tmp 5) 2, none⟩,
      ⟨some 45, .load (.tmp 44) 1 false .plain, none⟩,
      ⟨none, .mapset (.tmp 43) (.tmp 45) (.const (.bool true)), none⟩] [0, 3, 7, 8, 9]))))
  (.region [
    ⟨some 46, .bin .add (.tmp 9) (.const (.int .i64 1)), none⟩,
    ⟨some 9, .mov (.tmp 46), none⟩] [0, 3, 7, 8, 9]))))
def c6 : CFn := ⟨50, [.tmp 2],
  (.seq (.region [
    ⟨some 2, .mov (.const (.bool false)), none⟩] [0])
  (.seq (.region [
    ⟨some 6, .mkmap, none⟩,
    ⟨some 3, .mov (.tmp 6), none⟩] [0, 3])
  (.seq (.seq (.region [
    ⟨some 7, .mov (.tmp 0), none⟩,
    ⟨some 8, .len false (.tmp 7), none⟩,
    ⟨some 9, .mov (.const (.int .i64 0)), none⟩] [0, 3, 7, 8, 9])
  (.block 0
    (.loop [0, 3, 7, 8, 9] c6b0)))
  (.seq (.region [
    ⟨some 47, .mov (.tmp 0), none⟩,
    ⟨some 48, .len false (.tmp 47), none⟩,
    ⟨some 49, .bin .leq (.tmp 48) (.const (.int .i64 10)), none⟩,
    ⟨some 2, .mov (.tmp 49), none⟩] [2])
  .ret))))⟩
-- spec.MateWantsOk
def c7b0 : CCode := (.seq (.seq (.region [
    ⟨some 38, .mov (.tmp 4), none⟩,
    ⟨some 39, .mov (.tmp 3), none⟩,
    ⟨some 40, .bin .lss (.tmp 38) (.tmp 39), none⟩] [0, 3, 4, 40])
  (.cond (.tmp 40)
    .skip
    (.exit 2)))
  (.seq (.block 3
    (.seq (.quiet [
      ⟨some 43, .mov (.tmp 0), none⟩,
      ⟨some 44, .mov (.tmp 3), none⟩,
      ⟨some 45, .iaddr 7 (.tmp 43) (.tmp 44), none⟩,
      ⟨some 46, .faddr (.tmp 45) 2, none⟩,
      ⟨some 47, .load (.tmp 46) 1 false .plain, none⟩,
      ⟨some 48, .bin .neq (.tmp 47) (.const (.str ⟨#[]⟩)), none⟩,
      ⟨some 49, .mov (.tmp 48), none⟩,
      ⟨some 50, .mov (.tmp 0), some (49, true)⟩,
      ⟨some 51, .mov (.tmp 4), some (49, true)⟩,
      ⟨some 52, .iaddr 7 (.tmp 50) (.tmp 51), some (49, true)⟩,
      ⟨some 53, .faddr (.tmp 52) 2, some (49, true)⟩,
      ⟨some 54, .load (.tmp 53) 1 false .plain, some (49, true)⟩,
      ⟨some 55, .mov (.tmp 0), some (49, true)⟩,
      ⟨some 56, .mov (.tmp 3), some (49, true)⟩,
      ⟨some 57, .iaddr 7 (.tmp 55) (.tmp 56), some (49, true)⟩,
      ⟨some 58, .faddr (.tmp 57) 2, some (49, true)⟩,
      ⟨some 59, .load (.tmp 58) 1 false .plain, some (49, true)⟩,
      ⟨some 60, .bin .eql (.tmp 54) (.tmp 59), some (49, true)⟩,
      ⟨some 61, .pick (.tmp 49) (.tmp 60) (.const (.bool false)), none⟩] [0, 3, 4, 61])
    (.cond (.tmp 61)
      (.seq (.region [
        ⟨some 2, .mov (.const (.bool false)), none⟩] [2])
      .ret)
      .skip)))
  (.region [
    ⟨some 41, .mov (.tmp 4), none⟩,
    ⟨some 42, .bin .add (.tmp 41) (.const (.int .i64 1)), none⟩,
    ⟨some 4, .mov (.tmp 42), none⟩] [0, 3, 4])))
def c7b1 : CCode := (.seq (.seq (.region [
    ⟨some 8, .mov (.tmp 3), none⟩,
    ⟨some 9, .mov (.tmp 0), none⟩,
    ⟨some 10, .len false (.tmp 9), none⟩,
    ⟨some 11, .bin .lss (.tmp 8) (.tmp 10), none⟩] [0, 3, 11])
  (.cond (.tmp 11)
    .skip
    (.exit 0)))
  (.seq (.block 1
    (.seq (.seq (.quiet [
      ⟨some 14, .mov (.tmp 0), none⟩,
      ⟨some 15, .mov (.tmp 3), none⟩,
      ⟨some 16, .iaddr 7 (.tmp 14) (.tmp 15), none⟩,
      ⟨some 17, .load (.tmp 16) 7 true .plain, none⟩,
      ⟨some 18, .call 81 [false] [.tmp 17], none⟩,
      ⟨some 19, .un .not (.tmp 18), none⟩,
      ⟨some 20, .mov (.tmp 19), none⟩,
      ⟨some 21, .mov (.tmp 3), some (20, false)⟩,
      ⟨some 22, .bin .gtr (.tmp 21) (.const (.int .i64 0)), some (20, false)⟩,
      ⟨some 23, .mov (.tmp 22), some (20, false)⟩,
      ⟨some 24, .mov (.tmp 0), some (23, true)⟩,
      ⟨some 25, .mov (.tmp 3), some (23, true)⟩,
      ⟨some 26, .bin .sub (.tmp 25) (.const (.int .i64 1)), some (23, true)⟩,
      ⟨some 27, .iaddr 7 (.tmp 24) (.tmp 26), some (23, true)⟩,
      ⟨some 28, .faddr (.tmp 27) 0, some (23, true)⟩,
      ⟨some 29, .load (.tmp 28) 1 false .plain, some (23, true)⟩,
      ⟨some 30, .mov (.tmp 0), some (23, true)⟩,
      ⟨some 31, .mov (.tmp 3), some (23, true)⟩,
      ⟨some 32, .iaddr 7 (.tmp 30) (.tmp 31), some (23, true)⟩,
      ⟨some 33, .faddr (.tmp 32) 0, some (23, true)⟩,
      ⟨some 34, .load (.tmp 33) 1 false .plain, some (23, true)⟩,
      ⟨some 35, .bin .geq (.tmp 29) (.tmp 34), some (23, true)⟩,
      ⟨some 36, .pick (.tmp 23) (.tmp 35) (.const (.bool false)), some (20, false)⟩,
      ⟨some 37, .pick (.tmp 20) (.const (.bool true)) (.tmp 36), none⟩] [0, 3, 37])
    (.cond (.tmp 37)
      (.seq (.region [
        ⟨some 2, .mov (.const (.bool false)), none⟩] [2])
      .ret)
      .skip))
    (.seq (.region [
      ⟨some 4, .mov (.const (.int .i64 0)), none⟩] [0, 3, 4])
    (.block 2
      (.loop [0, 3, 4] c7b0)))))
  (.region [
    ⟨some 12, .mov (.tmp 3), none⟩,
    ⟨some 13, .bin .add (.tmp 12) (.const (.int .i64 1)), none⟩,
    ⟨some 3, .mov (.tmp 13), none⟩] [0, 3])))
def c7 : CFn := ⟨62, [.tmp 2],
  (.seq (.region [
    ⟨some 2, .mov (.const (.bool false)), none⟩] [0])
  (.seq (.seq (.region [
    ⟨some 5, .mov (.tmp 0), none⟩,
    ⟨some 6, .len false (.tmp 5), none⟩,
    ⟨some 7, .bin .gtr (.tmp 6) (.const (.int .i64 10)), none⟩] [0, 7])
  (.cond (.tmp 7)
    (.seq (.region [
      ⟨some 2, .mov (.const (.bool false)), none⟩] [2])
    .ret)
    .skip))
  (.seq (.seq (.region [
    ⟨some 3, .mov (.const (.int .i64 0)), none⟩] [0, 3])
  (.block 0
    (.loop [0, 3] c7b1)))
  (.seq (.region [
    ⟨some 2, .mov (.const (.bool true)), none⟩] [2])
  .ret))))⟩
-- laws.szMateWantS
def c8b0 : CCode := (.seq (.seq (.region [
    ⟨some 12, .mov (.tmp 5), none⟩,
    ⟨some 13, .mov (.tmp 0), none⟩,
    ⟨some 14, .len false (.tmp 13), none⟩,
    ⟨some 15, .bin .lss (.tmp 12) (.tmp 14), none⟩] [0, 1, 5, 15])
  (.cond (.tmp 15)
    .skip
    (.exit 0)))
  (.seq (.block 1
    (.seq (.region [
      ⟨some 18, .mov (.tmp 0), none⟩,
      ⟨some 19, .mov (.tmp 5), none⟩,
      ⟨some 20, .iaddr 7 (.tmp 18) (.tmp 19), none⟩,
      ⟨some 21, .load (.tmp 20) 7 true .plain, none⟩,
      ⟨some 22, .mov (.tmp 1), none⟩,
      ⟨some 23, .call 79 [false, false] [.tmp 21, .tmp 22], none⟩,
      ⟨some 1, .mov (.tmp 23), none⟩] [0, 1, 5])
    (.seq (.region [
      ⟨some 24, .mov (.tmp 1), none⟩,
      ⟨some 25, .bin .lss (.tmp 24) (.const (.int .i64 0)), none⟩] [0, 1, 5, 25])
    (.cond (.tmp 25)
      (.seq (.region [
        ⟨some 4, .mov (.const (.int .i64 (-1))), none⟩] [4])
      .ret)
      .skip))))
  (.region [
    ⟨some 16, .mov (.tmp 5), none⟩,
    ⟨some 17, .bin .add (.tmp 16) (.const (.int .i64 1)), none⟩,
    ⟨some 5, .mov (.tmp 17), none⟩] [0, 1, 5])))
def c8 : CFn := ⟨27, [.tmp 4],
  (.seq (.region [
    ⟨some 4, .mov (.const (.int .i64 0)), none⟩] [0, 1])
  (.seq (.region [
    ⟨some 6, .mov (.tmp 1), none⟩,
    ⟨some 7, .mov (.tmp 0), none⟩,
    ⟨some 8, .len false (.tmp 7), none⟩,
    ⟨some 9, .bin .sub (.tmp 6) (.tmp 8), none⟩,
    ⟨some 1, .mov (.tmp 9), none⟩] [0, 1])
  (.seq (.seq (.region [
    ⟨some 10, .mov (.tmp 1), none⟩,
    ⟨some 11, .bin .lss (.tmp 10) (.const (.int .i64 0)), none⟩] [0, 1, 11])
  (.cond (.tmp 11)
    (.seq (.region [
      ⟨some 4, .mov (.const (.int .i64 (-1))), none⟩] [4])
    .ret)
    .skip))
  (.seq (.seq (.region [
    ⟨some 5, .mov (.const (.int .i64 0)), none⟩] [0, 1, 5])
  (.block 0
    (.loop [0, 1, 5] c8b0)))
  (.seq (.region [
    ⟨some 26, .mov (.tmp 1), none⟩,
    ⟨some 4, .mov (.tmp 26), none⟩] [4])
  .ret)))))⟩
-- laws.toMateRunS
def c9b0 : CCode := (.seq (.seq (.region [
    ⟨some 8, .mov (.tmp 4), none⟩,
    ⟨some 9, .mov (.tmp 0), none⟩,
    ⟨some 10, .len false (.tmp 9), none⟩,
    ⟨some 11, .bin .lss (.tmp 8) (.tmp 10), none⟩] [0, 3, 4, 11])
  (.cond (.tmp 11)
    .skip
    (.exit 0)))
  (.seq (.block 1
    (.region [
      ⟨some 14, .mov (.tmp 3), none⟩,
      ⟨some 15, .mov (.tmp 4), none⟩,
      ⟨some 16, .mov (.tmp 0), none⟩,
      ⟨some 17, .mov (.tmp 4), none⟩,
      ⟨some 18, .iaddr 11 (.tmp 16) (.tmp 17), none⟩,
      ⟨some 19, .load (.tmp 18) 11 true .plain, none⟩,
      ⟨some 20, .call 0 [false] [.tmp 19], none⟩,
      ⟨some 21, .iaddr 11 (.tmp 14) (.tmp 15), none⟩,
      ⟨none, .store (.tmp 21) (.tmp 20) 11, none⟩] [0, 3, 4]))
  (.region [
    ⟨some 12, .mov (.tmp 4), none⟩,
    ⟨some 13, .bin .add (.tmp 12) (.const (.int .i64 1)), none⟩,
    ⟨some 4, .mov (.tmp 13), none⟩] [0, 3, 4])))
def c9 : CFn := ⟨23, [.tmp 2],
  (.seq (.region [
    ⟨some 2, .mov (.const (.sl .own 11 [])), none⟩] [0])
  (.seq (.region [
    ⟨some 5, .mov (.tmp 0), none⟩,
    ⟨some 6, .len false (.tmp 5), none⟩,
    ⟨some 7, .mksl 11 [.str ⟨#[]⟩, .int .i64 0, .str ⟨#[]⟩, .int .i64 0, .int .i64 0, .int .i64 0, .int .i64 0, .int .i64 0, .int .i64 0, .int .i64 0, .int .i64 0] 104 (.tmp 6), none⟩,
    ⟨some 3, .mov (.tmp 7), none⟩] [0, 3])
  (.seq (.seq (.region [
    ⟨some 4, .mov (.const (.int .i64 0)), none⟩] [0, 3, 4])
  (.block 0
    (.loop [0, 3, 4] c9b0)))
  (.seq (.region [
    ⟨some 22, .mov (.tmp 3), none⟩,
    ⟨some 2, .mov (.tmp 22), none⟩] [2])
  .ret))))⟩
-- laws.eqMateRunS
def c10b0 : CCode := (.seq (.seq (.region [
    ⟨some 11, .mov (.tmp 5), none⟩,
    ⟨some 12, .mov (.tmp 0), none⟩,
    ⟨some 13, .len false (.tmp 12), none⟩,
    ⟨some 14, .bin .lss (.tmp 11) (.tmp 13), none⟩] [0, 1, 5, 14])
  (.cond (.tmp 14)
    .skip
    (.exit 0)))
  (.seq (.block 1
    (.seq (.quiet [
      ⟨some 17, .mov (.tmp 0), none⟩,
      ⟨some 18, .mov (.tmp 5), none⟩,
      ⟨some 19, .iaddr 11 (.tmp 17) (.tmp 18), none⟩,
      ⟨some 20, .load (.tmp 19) 11 true .plain, none⟩,
      ⟨some 21, .mov (.tmp 1), none⟩,
      ⟨some 22, .mov (.tmp 5), none⟩,
      ⟨some 23, .iaddr 11 (.tmp 21) (.tmp 22), none⟩,
      ⟨some 24, .load (.tmp 23) 11 true .plain, none⟩,
      ⟨some 25, .call 86 [false, false] [.tmp 20, .tmp 24], none⟩,
      ⟨some 26, .un .not (.tmp 25), none⟩] [0, 1, 5, 26])
    (.cond (.tmp 26)
      (.seq (.region [
        ⟨some 4, .mov (.const (.bool false)), none⟩] [4])
      .ret)
      .skip)))
  (.region [
    ⟨some 15, .mov (.tmp 5), none⟩,
    ⟨some 16, .bin .add (.tmp 15) (.const (.int .i64 1)), none⟩,
    ⟨some 5, .mov (.tmp 16), none⟩] [0, 1, 5])))
def c10 : CFn := ⟨27, [.tmp 4],
  (.seq (.region [
    ⟨some 4, .mov (.const (.bool false)), none⟩] [0, 1])
  (.seq (.seq (.region [
    ⟨some 6, .mov (.tmp 0), none⟩,
    ⟨some 7, .len false (.tmp 6), none⟩,
    ⟨some 8, .mov (.tmp 1), none⟩,
    ⟨some 9, .len false (.tmp 8), none⟩,
    ⟨some 10, .bin .neq (.tmp 7) (.tmp 9), none⟩] [0, 1, 10])
  (.cond (.tmp 10)
    (.seq (.region [
      ⟨some 4, .mov (.const (.bool false)), none⟩] [4])
    .ret)
    .skip))
  (.seq (.seq (.region [
    ⟨some 5, .mov (.const (.int .i64 0)), none⟩] [0, 1, 5])
  (.block 0
    (.loop [0, 1, 5] c10b0)))
  (.seq (.region [
    ⟨some 4, .mov (.const (.bool true)), none⟩] [4])
  .ret))))⟩
-- impl.MateRunsOk
def c11b0 : CCode := (.seq (.region [
    ⟨some 13, .bin .lss (.tmp 12) (.tmp 11), none⟩] [0, 1, 10, 11, 12, 13])
  (.seq (.cond (.tmp 13)
    .skip
    (.exit 0))
  (.seq (.block 1
    (.seq (.region [
      ⟨some 14, .mov (.tmp 12), none⟩,
      ⟨some 15, .iaddr 11 (.tmp 10) (.tmp 12), none⟩,
      ⟨some 16, .load (.tmp 15) 11 true .plain, none⟩,
      ⟨some 6, .alloc [.str ⟨#[]⟩, .int .i64 0, .str ⟨#[]⟩, .int .i64 0, .int .i64 0, .int .i64 0, .int .i64 0, .int .i64 0, .int .i64 0, .int .i64 0, .int .i64 0], none⟩,
      ⟨some 5, .mov (.tmp 14), none⟩,
      ⟨none, .store (.tmp 6) (.tmp 16) 11, none⟩] [0, 1, 5, 6, 10, 11, 12])
    (.seq (.seq (.quiet [
      ⟨some 17, .faddr (.tmp 6) 0, none⟩,
      ⟨some 18, .load (.tmp 17) 7 true .plain, none⟩,
      ⟨some 19, .call 82 [false] [.tmp 18], none⟩,
      ⟨some 20, .un .not (.tmp 19), none⟩,
      ⟨some 21, .mov (.tmp 20), none⟩,
      ⟨some 22, .mov (.tmp 5), some (21, false)⟩,
      ⟨some 23, .bin .gtr (.tmp 22) (.const (.int .i64 0)), some (21, false)⟩,
      ⟨some 24, .mov (.tmp 23), some (21, false)⟩,
      ⟨some 25, .mov (.tmp 0), some (24, true)⟩,
      ⟨some 26, .mov (.tmp 5), some (24, true)⟩,
      ⟨some 27, .bin .sub (.tmp 26) (.const (.int .i64 1)), some (24, true)⟩,
      ⟨some 28, .iaddr 11 (.tmp 25) (.tmp 27), some (24, true)⟩,
      ⟨some 29, .faddr (.tmp 28) 0, some (24, true)⟩,
      ⟨some 30, .faddr (.tmp 29) 0, some (24, true)⟩,
      ⟨some 31, .load (.tmp 30) 1 false .plain, some (24, true)⟩,
      ⟨some 32, .faddr (.tmp 6) 0, some (24, true)⟩,
      ⟨some 33, .faddr (.tmp 32) 0, some (24, true)⟩,
      ⟨some 34, .load (.tmp 33) 1 false .plain, some (24, true)⟩,
      ⟨some 35, .bin .geq (.tmp 31) (.tmp 34), some (24, true)⟩,
      ⟨some 36, .pick (.tmp 24) (.tmp 35) (.const (.bool false)), some (21, false)⟩,
      ⟨some 37, .pick (.tmp 21) (.const (.bool true)) (.tmp 36), none⟩,
      ⟨some 38, .mov (.tmp 37), none⟩,
      ⟨some 39, .faddr (.tmp 6) 7, some (38, false)⟩,
      ⟨some 40, .load (.tmp 39) 1 false .plain, some (38, false)⟩,
      ⟨some 41, .call 85 [false, false, false] [.tmp 40, .const (.int .i64 1), .const (.int .i64 6)], some (38, false)⟩,
      ⟨some 42, .un .not (.tmp 41), some (38, false)⟩,
      ⟨some 43, .pick (.tmp 38) (.const (.bool true)) (.tmp 42), none⟩,
      ⟨some 44, .mov (.tmp 43), none⟩,
      ⟨some 45, .faddr (.tmp 6) 8, some (44, false)⟩,
      ⟨some 46, .load (.tmp 45) 1 false .plain, some (44, false)⟩,
      ⟨some 47, .call 85 [false, false, false] [.tmp 46, .const (.int .i64 0), .const (.int .i64 100)], some (44, false)⟩,
      ⟨some 48, .un .not (.tmp 47), some (44, false)⟩,
      ⟨some 49, .pick (.tmp 44) (.const (.bool true)) (.tmp 48), none⟩,
      ⟨some 50, .mov (.tmp 49), none⟩,
      ⟨some 51, .faddr (.tmp 6) 7, some (50, false)⟩,
      ⟨some 52, .load (.tmp 51) 1 false .plain, some (50, false)⟩,
      ⟨some 53, .bin .eql (.tmp 52) (.const (.int .i64 2)), some (50, false)⟩,
      ⟨some 54, .mov (.tmp 53), some (50, false)⟩,
      ⟨some 55, .faddr (.tmp 6) 8, some (54, true)⟩,
      ⟨some 56, .load (.tmp 55) 1 false .plain, some (54, true)⟩,
      ⟨some 57, .bin .neq (.tmp 56) (.const (.int .i64 0)), some (54, true)⟩,
      ⟨some 58, .pick (.tmp 54) (.tmp 57) (.const (.bool false)), some (50, false)⟩,
      ⟨some 59, .pick (.tmp 50) (.const (.bool true)) (.tmp 58), none⟩,
      ⟨some 60, .mov (.tmp 59), none⟩,
      ⟨some 61, .faddr (.tmp 6) 9, some (60, false)⟩,
      ⟨some 62, .load (.tmp 61) 1 false .plain, some (60, false)⟩,
      ⟨some 63, .call 85 [false, false, false] [.tmp 62, .const (.int .i64 0), .const (.int .i64 1000)], some (60, false)⟩,
      ⟨some 64, .un .not (.tmp 63), some (60, false)⟩,
      ⟨some 65, .pick (.tmp 60) (.const (.bool true)) (.tmp 64), none⟩,
      ⟨some 66, .mov (.tmp 65), none⟩,
      ⟨some 67, .faddr (.tmp 6) 10, some (66, false)⟩,
      ⟨some 68, .load (.tmp 67) 1 false .plain, some (66, false)⟩,
      ⟨some 69, .call 85 [false, false, false] [.tmp 68, .const (.int .i64 0), .const (.int .i64 1000016)], some (66, false)⟩,
      ⟨some 70, .un .not (.tmp 69), some (66, false)⟩,
      ⟨some 71, .pick (.tmp 66) (.const (.bool true)) (.tmp 70), none⟩] [0, 1, 6, 10, 11, 12, 71])
    (.cond (.tmp 71)
      (.seq (.region [
        ⟨some 4, .mov (.const (.bool false)), none⟩] [4])
      .ret)
      .skip))
    (.seq (.region [
      ⟨some 72, .faddr (.tmp 6) 0, none⟩,
      ⟨some 73, .faddr (.tmp 72) 2, none⟩,
      ⟨some 74, .load (.tmp 73) 1 false .plain, none⟩,
      ⟨some 75, .bin .eql (.tmp 74) (.const (.str ⟨#[]⟩)), none⟩,
      ⟨some 76, .mov (.tmp 75), none⟩,
      ⟨some 77, .faddr (.tmp 6) 10, some (76, true)⟩,
      ⟨some 78, .load (.tmp 77) 1 false .plain, some (76, true)⟩,
      ⟨some 79, .bin .neq (.tmp 78) (.const (.int .i64 0)), some (76, true)⟩,
      ⟨some 80, .pick (.tmp 76) (.tmp 79) (.const (.bool false)), none⟩,
      ⟨some 81, .mov (.tmp 80), none⟩,
      ⟨some 82, .faddr (.tmp 6) 0, some (81, false)⟩,
      ⟨some 83, .faddr (.tmp 82) 2, some (81, false)⟩,
      ⟨some 84, .load (.tmp 83) 1 false .plain, some (81, false)⟩,
      ⟨some 85, .bin .neq (.tmp 84) (.const (.str ⟨#[]⟩)), some (81, false)⟩,
      ⟨some 86, .mov (.tmp 85), some (81, false)⟩,
      ⟨some 87, .load (.tmp 6) 11 true .plain, some (86, true)⟩,
      ⟨some 88, .call 1 [false] [.tmp 87], some (86, true)⟩,
      ⟨some 89, .pick (.tmp 86) (.tmp 88) (.const (.bool false)), some (81, false)⟩,
      ⟨some 90, .mov (.tmp 89), some (81, false)⟩,
      ⟨some 91, .faddr (.tmp 6) 10, some (90, true)⟩,
      ⟨some 92, .load (.tmp 91) 1 false .plain, some (90, true)⟩,
      ⟨some 93, .mov (.tmp 1), some (90, true)⟩,
      ⟨some 94, .bin .add (.tmp 93) (.const (.int .i64 4)), some (90, true)⟩,
      ⟨some 95, .bin .lss (.tmp 92) (.tmp 94), some (90, true)⟩,
      ⟨some 96, .pick (.tmp 90) (.tmp 95) (.const (.bool false)), some (81, false)⟩,
      ⟨some 97, .pick (.tmp 81) (.const (.bool true)) (.tmp 96), none⟩] [0, 1, 10, 11, 12, 97])
    (.cond (.tmp 97)
      (.seq (.region [
        ⟨some 4, .mov (.const (.bool false)), none⟩] [4])
      .ret)
      .skip)))))
  (.region [
    ⟨some 98, .bin .add (.tmp 12) (.const (.int .i64 1)), none⟩,
    ⟨some 12, .mov (.tmp 98), none⟩] [0, 1, 10, 11, 12]))))
def c11 : CFn := ⟨99, [.tmp 4],
  (.seq (.region [
    ⟨some 4, .mov (.const (.bool false)), none⟩] [0, 1])
  (.seq (.seq (.region [
    ⟨some 7, .mov (.tmp 0), none⟩,
    ⟨some 8, .len false (.tmp 7), none⟩,
    ⟨some 9, .bin .gtr (.tmp 8) (.const (.int .i64 20)), none⟩] [0, 1, 9])
  (.cond (.tmp 9)
    (.seq (.region [
      ⟨some 4, .mov (.const (.bool false)), none⟩] [4])
    .ret)
    .skip))
  (.seq (.seq (.region [
    ⟨some 10, .mov (.tmp 0), none⟩,
    ⟨some 11, .len false (.tmp 10), none⟩,
    ⟨some 12, .mov (.const (.int .i64 0)), none⟩] [0, 1, 10, 11, 12])
  (.block 0
    (.loop [0, 1, 10, 11, 12] c11b0)))
  (.seq (.region [
    ⟨some 4, .mov (.const (.bool true)), none⟩] [4])
  .ret))))⟩
-- spec.MateRunsOk
def c12b0 : CCode := (.seq (.seq (.region [
    ⟨some 9, .mov (.tmp 5), none⟩,
    ⟨some 10, .mov (.tmp 0), none⟩,
    ⟨some 11, .len false (.tmp 10), none⟩,
    ⟨some 12, .bin .lss (.tmp 9) (.tmp 11), none⟩] [0, 1, 5, 12])
  (.cond (.tmp 12)
    .skip
    (.exit 0)))
  (.seq (.block 1
    (.seq (.quiet [
      ⟨some 15, .mov (.tmp 0), none⟩,
      ⟨some 16, .mov (.tmp 5), none⟩,
      ⟨some 17, .iaddr 11 (.tmp 15) (.tmp 16), none⟩,
      ⟨some 18, .load (.tmp 17) 11 true .plain, none⟩,
      ⟨some 19, .mov (.tmp 1), none⟩,
      ⟨some 20, .call 84 [false, false] [.tmp 18, .tmp 19], none⟩,
      ⟨some 21, .un .not (.tmp 20), none⟩,
      ⟨some 22, .mov (.tmp 21), none⟩,
      ⟨some 23, .mov (.tmp 5), some (22, false)⟩,
      ⟨some 24, .bin .gtr (.tmp 23) (.const (.int .i64 0)), some (22, false)⟩,
      ⟨some 25, .mov (.tmp 24), some (22, false)⟩,
      ⟨some 26, .mov (.tmp 0), some (25, true)⟩,
      ⟨some 27, .mov (.tmp 5), some (25, true)⟩,
      ⟨some 28, .bin .sub (.tmp 27) (.const (.int .i64 1)), some (25, true)⟩,
      ⟨some 29, .iaddr 11 (.tmp 26) (.tmp 28), some (25, true)⟩,
      ⟨some 30, .faddr (.tmp 29) 0, some (25, true)⟩,
      ⟨some 31, .faddr (.tmp 30) 0, some (25, true)⟩,
      ⟨some 32, .load (.tmp 31) 1 false .plain, some (25, true)⟩,
      ⟨some 33, .mov (.tmp 0), some (25, true)⟩,
      ⟨some 34, .mov (.tmp 5), some (25, true)⟩,
      ⟨some 35, .iaddr 11 (.tmp 33) (.tmp 34), some (25, true)⟩,
      ⟨some 36, .faddr (.tmp 35) 0, some (25, true)⟩,
      ⟨some 37, .faddr (.tmp 36) 0, some (25, true)⟩,
      ⟨some 38, .load (.tmp 37) 1 false .plain, some (25, true)⟩,
      ⟨some 39, .bin .geq (.tmp 32) (.tmp 38), some (25, true)⟩,
      ⟨some 40, .pick (.tmp 25) (.tmp 39) (.const (.bool false)), some (22, false)⟩,
      ⟨some 41, .pick (.tmp 22) (.const (.bool true)) (.tmp 40), none⟩] [0, 1, 5, 41])
    (.cond (.tmp 41)
      (.seq (.region [
        ⟨some 4, .mov (.const (.bool false)), none⟩] [4])
      .ret)
      .skip)))
  (.region [
    ⟨some 13, .mov (.tmp 5), none⟩,
    ⟨some 14, .bin .add (.tmp 13) (.const (.int .i64 1)), none⟩,
    ⟨some 5, .mov (.tmp 14), none⟩] [0, 1, 5])))
def c12 : CFn := ⟨42, [.tmp 4],
  (.seq (.region [
    ⟨some 4, .mov (.const (.bool false)), none⟩] [0, 1])
  (.seq (.seq (.region [
    ⟨some 6, .mov (.tmp 0), none⟩,
    ⟨some 7, .len false (.tmp 6), none⟩,
    ⟨some 8, .bin .gtr (.tmp 7) (.const (.int .i64 20)), none⟩] [0, 1, 8])
  (.cond (.tmp 8)
    (.seq (.region [
      ⟨some 4, .mov (.const (.bool false)), none⟩] [4])
    .ret)
    .skip))
  (.seq (.seq (.region [
    ⟨some 5, .mov (.const (.int .i64 0)), none⟩] [0, 1, 5])
  (.block 0
    (.loop [0, 1, 5] c12b0)))
  (.seq (.region [
    ⟨some 4, .mov (.const (.bool true)), none⟩] [4])
  .ret))))⟩
-- laws.szMateRunS
def c13b0 : CCode := (.seq (.seq (.region [
    ⟨some 12, .mov (.tmp 5), none⟩,
    ⟨some 13, .mov (.tmp 0), none⟩,
    ⟨some 14, .len false (.tmp 13), none⟩,
    ⟨some 15, .bin .lss (.tmp 12) (.tmp 14), none⟩] [0, 1, 5, 15])
  (.cond (.tmp 15)
    .skip
    (.exit 0)))
  (.seq (.block 1
    (.seq (.region [
      ⟨some 18, .mov (.tmp 0), none⟩,
      ⟨some 19, .mov (.tmp 5), none⟩,
      ⟨some 20, .iaddr 11 (.tmp 18) (.tmp 19), none⟩,
      ⟨some 21, .load (.tmp 20) 11 true .plain, none⟩,
      ⟨some 22, .mov (.tmp 1), none⟩,
      ⟨some 23, .call 3 [false, false] [.tmp 21, .tmp 22], none⟩,
      ⟨some 1, .mov (.tmp 23), none⟩] [0, 1, 5])
    (.seq (.region [
      ⟨some 24, .mov (.tmp 1), none⟩,
      ⟨some 25, .bin .lss (.tmp 24) (.const (.int .i64 0)), none⟩] [0, 1, 5, 25])
    (.cond (.tmp 25)
      (.seq (.region [
        ⟨some 4, .mov (.const (.int .i64 (-1))), none⟩] [4])
      .ret)
      .skip))))
  (.region [
    ⟨some 16, .mov (.tmp 5), none⟩,
    ⟨some 17, .bin .add (.tmp 16) (.const (.int .i64 1)), none⟩,
    ⟨some 5, .mov (.tmp 17), none⟩] [0, 1, 5])))
def c13 : CFn := ⟨27, [.tmp 4],
  (.seq (.region [
    ⟨some 4, .mov (.const (.int .i64 0)), none⟩] [0, 1])
  (.seq (.region [
    ⟨some 6, .mov (.tmp 1), none⟩,
    ⟨some 7, .mov (.tmp 0), none⟩,
    ⟨some 8, .len false (.tmp 7), none⟩,
    ⟨some 9, .bin .sub (.tmp 6) (.tmp 8), none⟩,
    ⟨some 1, .mov (.tmp 9), none⟩] [0, 1])
  (.seq (.seq (.region [
    ⟨some 10, .mov (.tmp 1), none⟩,
    ⟨some 11, .bin .lss (.tmp 10) (.const (.int .i64 0)), none⟩] [0, 1, 11])
  (.cond (.tmp 11)
    (.seq (.region [
      ⟨some 4, .mov (.const (.int .i64 (-1))), none⟩] [4])
    .ret)
    .skip))
  (.seq (.seq (.region [
    ⟨some 5, .mov (.const (.int .i64 0)), none⟩] [0, 1, 5])
  (.block 0
    (.loop [0, 1, 5] c13b0)))
  (.seq (.region [
    ⟨some 26, .mov (.tmp 1), none⟩,
    ⟨some 4, .mov (.tmp 26), none⟩] [4])
  .ret)))))⟩
-- laws.heldMateRunS
def c17b0 : CCode := (.seq (.seq (.region [
    ⟨some 6, .mov (.tmp 5), none⟩,
    ⟨some 7, .mov (.tmp 0), none⟩,
    ⟨some 8, .len false (.tmp 7), none⟩,
    ⟨some 9, .bin .lss (.tmp 6) (.tmp 8), none⟩] [0, 1, 5, 9])
  (.cond (.tmp 9)
    .skip
    (.exit 0)))
  (.seq (.block 1
    (.seq (.seq (.quiet [
      ⟨some 12, .mov (.tmp 0), none⟩,
      ⟨some 13, .mov (.tmp 5), none⟩,
      ⟨some 14, .iaddr 11 (.tmp 12) (.tmp 13), none⟩,
      ⟨some 15, .faddr (.tmp 14) 0, none⟩,
      ⟨some 16, .faddr (.tmp 15) 0, none⟩,
      ⟨some 17, .load (.tmp 16) 1 false .plain, none⟩,
      ⟨some 18, .mov (.tmp 1), none⟩,
      ⟨some 19, .call 96 [false] [.tmp 18], none⟩,
      ⟨some 20, .bin .neq (.tmp 17) (.tmp 19), none⟩] [0, 1, 5, 20])
    (.cond (.tmp 20)
      (.seq (.region [
        ⟨some 4, .mov (.const (.int .i64 (-1))), none⟩] [4])
      .ret)
      .skip))
    (.seq (.region [
      ⟨some 21, .mov (.tmp 1), none⟩,
      ⟨some 22, .bin .add (.tmp 21) (.const (.int .i64 1)), none⟩,
      ⟨some 1, .mov (.tmp 22), none⟩] [0, 1, 5])
    (.seq (.seq (.region [
      ⟨some 23, .mov (.tmp 0), none⟩,
      ⟨some 24, .mov (.tmp 5), none⟩,
      ⟨some 25, .iaddr 11 (.tmp 23) (.tmp 24), none⟩,
      ⟨some 26, .faddr (.tmp 25) 0, none⟩,
      ⟨some 27, .faddr (.tmp 26) 1, none⟩,
      ⟨some 28, .load (.tmp 27) 1 false .plain, none⟩,
      ⟨some 29, .mov (.tmp 1), none⟩,
      ⟨some 30, .bin .neq (.tmp 28) (.tmp 29), none⟩] [0, 1, 5, 30])
    (.cond (.tmp 30)
      (.seq (.region [
        ⟨some 4, .mov (.const (.int .i64 (-1))), none⟩] [4])
      .ret)
      .skip))
    (.seq (.region [
      ⟨some 31, .mov (.tmp 1), none⟩,
      ⟨some 32, .bin .add (.tmp 31) (.const (.int .i64 1)), none⟩,
      ⟨some 1, .mov (.tmp 32), none⟩] [0, 1, 5])
    (.seq (.seq (.quiet [
      ⟨some 33, .mov (.tmp 0), none⟩,
      ⟨some 34, .mov (.tmp 5), none⟩,
      ⟨some 35, .iaddr 11 (.tmp 33) (.tmp 34), none⟩,
      ⟨some 36, .faddr (.tmp 35) 0, none⟩,
      ⟨some 37, .faddr (.tmp 36) 2, none⟩,
      ⟨some 38, .load (.tmp 37) 1 false .plain, none⟩,
      ⟨some 39, .mov (.tmp 1), none⟩,
      ⟨some 40, .call 96 [false] [.tmp 39], none⟩,
      ⟨some 41, .bin .neq (.tmp 38) (.tmp 40), none⟩] [0, 1, 5, 41])
    (.cond (.tmp 41)
      (.seq (.region [
        ⟨some 4, .mov (.const (.int .i64 (-1))), none⟩] [4])
      .ret)
      .skip))
    (.seq (.region [
      ⟨some 42, .mov (.tmp 1), none⟩,
      ⟨some 43, .bin .add (.tmp 42) (.const (.int .i64 1)), none⟩,
      ⟨some 1, .mov (.tmp 43), none⟩] [0, 1, 5])
    (.seq (.seq (.region [
      ⟨some 44, .mov (.tmp 0), none⟩,
      ⟨some 45, .mov (.tmp 5), none⟩,
      ⟨some 46, .iaddr 11 (.tmp 44) (.tmp 45), none⟩,
      ⟨some 47, .faddr (.tmp 46) 0, none⟩,
      ⟨some 48, .faddr (.tmp 47) 3, none⟩,
      ⟨some 49, .load (.tmp 48) 1 false .plain, none⟩,
      ⟨some 50, .mov (.tmp 1), none⟩,
      ⟨some 51, .bin .neq (.tmp 49) (.tmp 50), none⟩] [0, 1, 5, 51])
    (.cond (.tmp 51)
      (.seq (.region [
        ⟨some 4, .mov (.const (.int .i64 (-1))), none⟩] [4])
      .ret)
      .skip))
    (.seq (.region [
      ⟨some 52, .mov (.tmp 1), none⟩,
      ⟨some 53, .bin .add (.tmp 52) (.const (.int .i64 1)), none⟩,
      ⟨some 1, .mov (.tmp 53), none⟩] [0, 1, 5])
    (.seq (.seq (.region [
      ⟨some 54, .mov (.tmp 0), none⟩,
      ⟨some 55, .mov (.tmp 5), none⟩,
      ⟨some 56, .iaddr 11 (.tmp 54) (.tmp 55), none⟩,
      ⟨some 57, .faddr (.tmp 56) 0, none⟩,
      ⟨some 58, .faddr (.tmp 57) 4, none⟩,
      ⟨some 59, .load (.tmp 58) 1 false .plain, none⟩,
      ⟨some 60, .mov (.tmp 1), none⟩,
      ⟨some 61, .bin .neq (.tmp 59) (.tmp 60), none⟩] [0, 1, 5, 61])
    (.cond (.tmp 61)
      (.seq (.region [
        ⟨some 4, .mov (.const (.int .i64 (-1))), none⟩] [4])
      .ret)
      .skip))
    (.seq (.region [
      ⟨some 62, .mov (.tmp 1), none⟩,
      ⟨some 63, .bin .add (.tmp 62) (.const (.int .i64 1)), none⟩,
      ⟨some 1, .mov (.tmp 63), none⟩] [0, 1, 5])
    (.seq (.seq (.region [
      ⟨some 64, .mov (.tmp 0), none⟩,
      ⟨some 65, .mov (.tmp 5), none⟩,
      ⟨some 66, .iaddr 11 (.tmp 64) (.tmp 65), none⟩,
      ⟨some 67, .faddr (.tmp 66) 0, none⟩,
      ⟨some 68, .faddr (.tmp 67) 5, none⟩,
      ⟨some 69, .load (.tmp 68) 1 false .plain, none⟩,
      ⟨some 70, .mov (.tmp 1), none⟩,
      ⟨some 71, .bin .neq (.tmp 69) (.tmp 70), none⟩] [0, 1, 5, 71])
    (.cond (.tmp 71)
      (.seq (.region [
        ⟨some 4, .mov (.const (.int .i64 (-1))), none⟩] [4])
      .ret)
      .skip))
    (.seq (.region [
      ⟨some 72, .mov (.tmp 1), none⟩,
      ⟨some 73, .bin .add (.tmp 72) (.const (.int .i64 1)), none⟩,
      ⟨some 1, .mov (.tmp 73), none⟩] [0, 1, 5])
    (.seq (.seq (.region [
      ⟨some 74, .mov (.tmp 0), none⟩,
      ⟨some 75, .mov (.tmp 5), none⟩,
      ⟨some 76, .iaddr 11 (.tmp 74) (.tmp 75), none⟩,
      ⟨some 77, .faddr (.tmp 76) 0, none⟩,
      ⟨some 78, .faddr (.tmp 77) 6, none⟩,
      ⟨some 79, .load (.tmp 78) 1 false .plain, none⟩,
      ⟨some 80, .mov (.tmp 1), none⟩,
      ⟨some 81, .bin .neq (.tmp 79) (.tmp 80), none⟩] [0, 1, 5, 81])
    (.cond (.tmp 81)
      (.seq (.region [
        ⟨some 4, .mov (.const (.int .i64 (-1))), none⟩] [4])
      .ret)
      .skip))
    (.seq (.region [
      ⟨some 82, .mov (.tmp 1), none⟩,
      ⟨some 83, .bin .add (.tmp 82) (.const (.int .i64 1)), none⟩,
      ⟨some 1, .mov (.tmp 83), none⟩] [0, 1, 5])
    (.seq (.seq (.region [
      ⟨some 84, .mov (.tmp 0), none⟩,
      ⟨some 85, .mov (.tmp 5), none⟩,
      ⟨some 86, .iaddr 11 (.tmp 84) (.tmp 85), none⟩,
      ⟨some 87, .faddr (.tmp 86) 7, none⟩,
      ⟨some 88, .load (.tmp 87) 1 false .plain, none⟩,
      ⟨some 89, .mov (.tmp 1), none⟩,
      ⟨some 90, .bin .neq (.tmp 88) (.tmp 89), none⟩] [0, 1, 5, 90])
    (.cond (.tmp 90)
      (.seq (.region [
        ⟨some 4, .mov (.const (.int .i64 (-1))), none⟩] [4])
      .ret)
      .skip))
    (.seq (.region [
      ⟨some 91, .mov (.tmp 1), none⟩,
      ⟨some 92, .bin .add (.tmp 91) (.const (.int .i64 1)), none⟩,
      ⟨some 1, .mov (.tmp 92), none⟩] [0, 1, 5])
    (.seq (.seq (.region [
      ⟨some 93, .mov (.tmp 0), none⟩,
      ⟨some 94, .mov (.tmp 5), none⟩,
      ⟨some 95, .iaddr 11 (.tmp 93) (.tmp 94), none⟩,
      ⟨some 96, .faddr (.tmp 95) 8, none⟩,
      ⟨some 97, .load (.tmp 96) 1 false .plain, none⟩,
      ⟨some 98, .mov (.tmp 1), none⟩,
      ⟨some 99, .bin .neq (.tmp 97) (.tmp 98), none⟩] [0, 1, 5, 99])
    (.cond (.tmp 99)
      (.seq (.region [
        ⟨some 4, .mov (.const (.int .i64 (-1))), none⟩] [4])
      .ret)
      .skip))
    (.seq (.region [
      ⟨some 100, .mov (.tmp 1), none⟩,
      ⟨some 101, .bin .add (.tmp 100) (.const (.int .i64 1)), none⟩,
      ⟨some 1, .mov (.tmp 101), none⟩] [0, 1, 5])
    (.seq (.seq (.region [
      ⟨some 102, .mov (.tmp 0), none⟩,
      ⟨some 103, .mov (.tmp 5), none⟩,
      ⟨some 104, .iaddr 11 (.tmp 102) (.tmp 103), none⟩,
      ⟨some 105, .faddr (.tmp 104) 9, none⟩,
      ⟨some 106, .load (.tmp 105) 1 false .plain, none⟩,
      ⟨some 107, .mov (.tmp 1), none⟩,
      ⟨some 108, .bin .neq (.tmp 106) (.tmp 107), none⟩] [0, 1, 5, 108])
    (.cond (.tmp 108)
      (.seq (.region [
        ⟨some 4, .mov (.const (.int .i64 (-1))), none⟩] [4])
      .ret)
      .skip))
    (.seq (.region [
      ⟨some 109, .mov (.tmp 1), none⟩,
      ⟨some 110, .bin .add (.tmp 109) (.const (.int .i64 1)), none⟩,
      ⟨some 1, .mov (.tmp 110), none⟩] [0, 1, 5])
    (.seq (.seq (.region [
      ⟨some 111, .mov (.tmp 0), none⟩,
      ⟨some 112, .mov (.tmp 5), none⟩,
      ⟨some 113, .iaddr 11 (.tmp 111) (.tmp 112), none⟩,
      ⟨some 114, .faddr (.tmp 113) 10, none⟩,
      ⟨some 115, .load (.tmp 114) 1 false .plain, none⟩,
      ⟨some 116, .mov (.tmp 1), none⟩,
      ⟨some 117, .bin .neq (.tmp 115) (.tmp 116), none⟩] [0, 1, 5, 117])
    (.cond (.tmp 117)
      (.seq (.region [
        ⟨some 4, .mov (.const (.int .i64 (-1))), none⟩] [4])
      .ret)
      .skip))
    (.region [
      ⟨some 118, .mov (.tmp 1), none⟩,
      ⟨some 119, .bin .add (.tmp 118) (.const (.int .i64 1)), none⟩,
      ⟨some 1, .mov (.tmp 119), none⟩] [0, 1, 5])))))))))))))))))))))))
  (.region [
    ⟨some 10, .mov (.tmp 5), none⟩,
    ⟨some 11, .bin .add (.tmp 10) (.const (.int .i64 1)), none⟩,
    ⟨some 5, .mov (.tmp 11), none⟩] [0, 1, 5])))
def c17 : CFn := ⟨121, [.tmp 4],
  (.seq (.region [
    ⟨some 4, .mov (.const (.int .i64 0)), none⟩] [0, 1])
  (.seq (.seq (.region [
    ⟨some 5, .mov (.const (.int .i64 0)), none⟩] [0, 1, 5])
  (.block 0
    (.loop [0, 1, 5] c17b0)))
  (.seq (.region [
    ⟨some 120, .mov (.tmp 1), none⟩,
    ⟨some 4, .mov (.tmp 120), none⟩] [4])
  .ret)))⟩
-- laws.markMateRunS
def c19b0 : CCode := (.seq (.seq (.region [
    ⟨some 6, .mov (.tmp 5), none⟩,
    ⟨some 7, .mov (.tmp 0), none⟩,
    ⟨some 8, .len false (.tmp 7), none⟩,
    ⟨some 9, .bin .lss (.tmp 6) (.tmp 8), none⟩] [0, 1, 5, 9])
  (.cond (.tmp 9)
    .skip
    (.exit 0)))
  (.seq (.block 1
    (.seq (.region [
      ⟨some 12, .mov (.tmp 0), none⟩,
      ⟨some 13, .mov (.tmp 5), none⟩,
      ⟨some 14, .mov (.tmp 1), none⟩,
      ⟨some 15, .call 96 [false] [.tmp 14], none⟩,
      ⟨some 16, .iaddr 11 (.tmp 12) (.tmp 13), none⟩,
      ⟨some 17, .faddr (.tmp 16) 0, none⟩,
      ⟨some 18, .faddr (.tmp 17) 0, none⟩,
      ⟨none, .store (.tmp 18) (.tmp 15) 1, none⟩] [0, 1, 5])
    (.seq (.region [
      ⟨some 19, .mov (.tmp 1), none⟩,
      ⟨some 20, .bin .add (.tmp 19) (.const (.int .i64 1)), none⟩,
      ⟨some 1, .mov (.tmp 20), none⟩] [0, 1, 5])
    (.seq (.region [
      ⟨some 21, .mov (.tmp 0), none⟩,
      ⟨some 22, .mov (.tmp 5), none⟩,
      ⟨some 23, .mov (.tmp 1), none⟩,
      ⟨some 24, .iaddr 11 (.tmp 21) (.tmp 22), none⟩,
      ⟨some 25, .faddr (.tmp 24) 0, none⟩,
      ⟨some 26, .faddr (.tmp 25) 1, none⟩,
      ⟨none, .store (.tmp 26) (.tmp 23) 1, none⟩] [0, 1, 5])
    (.seq (.region [
      ⟨some 27, .mov (.tmp 1), none⟩,
      ⟨some 28, .bin .add (.tmp 27) (.const (.int .i64 1)), none⟩,
      ⟨some 1, .mov (.tmp 28), none⟩] [0, 1, 5])
    (.seq (.region [
      ⟨some 29, .mov (.tmp 0), none⟩,
      ⟨some 30, .mov (.tmp 5), none⟩,
      ⟨some 31, .mov (.tmp 1), none⟩,
      ⟨some 32, .call 96 [false] [.tmp 31], none⟩,
      ⟨some 33, .iaddr 11 (.tmp 29) (.tmp 30), none⟩,
      ⟨some 34, .faddr (.tmp 33) 0, none⟩,
      ⟨some 35, .faddr (.tmp 34) 2, none⟩,
      ⟨none, .store (.tmp 35) (.tmp 32) 1, none⟩] [0, 1, 5])
    (.seq (.region [
      ⟨some 36, .mov (.tmp 1), none⟩,
      ⟨some 37, .bin .add (.tmp 36) (.const (.int .i64 1)), none⟩,
      ⟨some 1, .mov (.tmp 37), none⟩] [0, 1, 5])
    (.seq (.region [
      ⟨some 38, .mov (.tmp 0), none⟩,
      ⟨some 39, .mov (.tmp 5), none⟩,
      ⟨some 40, .mov (.tmp 1), none⟩,
      ⟨some 41, .iaddr 11 (.tmp 38) (.tmp 39), none⟩,
      ⟨some 42, .faddr (.tmp 41) 0, none⟩,
      ⟨some 43, .faddr (.tmp 42) 3, none⟩,
      ⟨none, .store (.tmp 43) (.tmp 40) 1, none⟩] [0, 1, 5])
    (.seq (.region [
      ⟨some 44, .mov (.tmp 1), none⟩,
      ⟨some 45, .bin .add (.tmp 44) (.const (.int .i64 1)), none⟩,
      ⟨some 1, .mov (.tmp 45), none⟩] [0, 1, 5])
    (.seq (.region [
      ⟨some 46, .mov (.tmp 0), none⟩,
      ⟨some 47, .mov (.tmp 5), none⟩,
      ⟨some 48, .mov (.tmp 1), none⟩,
      ⟨some 49, .iaddr 11 (.tmp 46) (.tmp 47), none⟩,
      ⟨some 50, .faddr (.tmp 49) 0, none⟩,
      ⟨some 51, .faddr (.tmp 50) 4, none⟩,
      ⟨none, .store (.tmp 51) (.tmp 48) 1, none⟩] [0, 1, 5])
    (.seq (.region [
      ⟨some 52, .mov (.tmp 1), none⟩,
      ⟨some 53, .bin .add (.tmp 52) (.const (.int .i64 1)), none⟩,
      ⟨some 1, .mov (.tmp 53), none⟩] [0, 1, 5])
    (.seq (.region [
      ⟨some 54, .mov (.tmp 0), none⟩,
      ⟨some 55, .mov (.tmp 5), none⟩,
      ⟨some 56, .mov (.tmp 1), none⟩,
      ⟨some 57, .iaddr 11 (.tmp 54) (.tmp 55), none⟩,
      ⟨some 58, .faddr (.tmp 57) 0, none⟩,
      ⟨some 59, .faddr (.tmp 58) 5, none⟩,
      ⟨none, .store (.tmp 59) (.tmp 56) 1, none⟩] [0, 1, 5])
    (.seq (.region [
      ⟨some 60, .mov (.tmp 1), none⟩,
      ⟨some 61, .bin .add (.tmp 60) (.const (.int .i64 1)), none⟩,
      ⟨some 1, .mov (.tmp 61), none⟩] [0, 1, 5])
    (.seq (.region [
      ⟨some 62, .mov (.tmp 0), none⟩,
      ⟨some 63, .mov (.tmp 5), none⟩,
      ⟨some 64, .mov (.tmp 1), none⟩,
      ⟨some 65, .iaddr 11 (.tmp 62) (.tmp 63), none⟩,
      ⟨some 66, .faddr (.tmp 65) 0, none⟩,
      ⟨some 67, .faddr (.tmp 66) 6, none⟩,
      ⟨none, .store (.tmp 67) (.tmp 64) 1, none⟩] [0, 1, 5])
    (.seq (.region [
      ⟨some 68, .mov (.tmp 1), none⟩,
      ⟨some 69, .bin .add (.tmp 68) (.const (.int .i64 1)), none⟩,
      ⟨some 1, .mov (.tmp 69), none⟩] [0, 1, 5])
    (.seq (.region [
      ⟨some 70, .mov (.tmp 0), none⟩,
      ⟨some 71, .mov (.tmp 5), none⟩,
      ⟨some 72, .mov (.tmp 1), none⟩,
      ⟨some 73, .iaddr 11 (.tmp 70) (.tmp 71), none⟩,
      ⟨some 74, .faddr (.tmp 73) 7, none⟩,
      ⟨none, .store (.tmp 74) (.tmp 72) 1, none⟩] [0, 1, 5])
    (.seq (.region [
      ⟨some 75, .mov (.tmp 1), none⟩,
      ⟨some 76, .bin .add (.tmp 75) (.const (.int .i64 1)), none⟩,
      ⟨some 1, .mov (.tmp 76), none⟩] [0, 1, 5])
    (.seq (.region [
      ⟨some 77, .mov (.tmp 0), none⟩,
      ⟨some 78, .mov (.tmp 5), none⟩,
      ⟨some 79, .mov (.tmp 1), none⟩,
      ⟨some 80, .iaddr 11 (.tmp 77) (.tmp 78), none⟩,
      ⟨some 81, .faddr (.tmp 80) 8, none⟩,
      ⟨none, .store (.tmp 81) (.tmp 79) 1, none⟩] [0, 1, 5])
    (.seq (.region [
      ⟨some 82, .mov (.tmp 1), none⟩,
      ⟨some 83, .bin .add (.tmp 82) (.const (.int .i64 1)), none⟩,
      ⟨some 1, .mov (.tmp 83), none⟩] [0, 1, 5])
    (.seq (.region [
      ⟨some 84, .mov (.tmp 0), none⟩,
      ⟨some 85, .mov (.tmp 5), none⟩,
      ⟨some 86, .mov (.tmp 1), none⟩,
      ⟨some 87, .iaddr 11 (.tmp 84) (.tmp 85), none⟩,
      ⟨some 88, .faddr (.tmp 87) 9, none⟩,
      ⟨none, .store (.tmp 88) (.tmp 86) 1, none⟩] [0, 1, 5])
    (.seq (.region [
      ⟨some 89, .mov (.tmp 1), none⟩,
      ⟨some 90, .bin .add (.tmp 89) (.const (.int .i64 1)), none⟩,
      ⟨some 1, .mov (.tmp 90), none⟩] [0, 1, 5])
    (.seq (.region [
      ⟨some 91, .mov (.tmp 0), none⟩,
      ⟨some 92, .mov (.tmp 5), none⟩,
      ⟨some 93, .mov (.tmp 1), none⟩,
      ⟨some 94, .iaddr 11 (.tmp 91) (.tmp 92), none⟩,
      ⟨some 95, .faddr (.tmp 94) 10, none⟩,
      ⟨none, .store (.tmp 95) (.tmp 93) 1, none⟩] [0, 1, 5])
    (.region [
      ⟨some 96, .mov (.tmp 1), none⟩,
      ⟨some 97, .bin .add (.tmp 96) (.const (.int .i64 1)), none⟩,
      ⟨some 1, .mov (.tmp 97), none⟩] [0, 1, 5])))))))))))))))))))))))
  (.region [
    ⟨some 10, .mov (.tmp 5), none⟩,
    ⟨some 11, .bin .add (.tmp 10) (.const (.int .i64 1)), none⟩,
    ⟨some 5, .mov (.tmp 11), none⟩] [0, 1, 5])))
def c19 : CFn := ⟨99, [.tmp 4],
  (.seq (.region [
    ⟨some 4, .mov (.const (.int .i64 0)), none⟩] [0, 1])
  (.seq (.seq (.region [
    ⟨some 5, .mov (.const (.int .i64 0)), none⟩] [0, 1, 5])
  (.block 0
    (.loop [0, 1, 5] c19b0)))
  (.seq (.region [
    ⟨some 98, .mov (.tmp 1), none⟩,
    ⟨some 4, .mov (.tmp 98), none⟩] [4])
  .ret)))⟩
-- laws.toMate
def c26 : CFn := ⟨36, [.cell 2 9 true],
  (.seq (.region [
    ⟨some 1, .box (.tmp 0), none⟩,
    ⟨some 2, .alloc [.str ⟨#[]⟩, .bool false, .int .i64 0, .bool false, .int .i64 0, .sl .own 7 [], .sl .own 11 [], .sl .own 4 [], .sl .own 4 []], none⟩] [1, 2])
  (.seq (.region [
    ⟨some 3, .alloc [.str ⟨#[]⟩, .bool false, .int .i64 0, .bool false, .int .i64 0, .sl .own 7 [], .sl .own 11 [], .sl .own 4 [], .sl .own 4 []], none⟩] [1, 2, 3])
  (.seq (.region [
    ⟨some 4, .faddr (.tmp 1) 0, none⟩,
    ⟨some 5, .load (.tmp 4) 1 false .plain, none⟩,
    ⟨some 6, .faddr (.tmp 3) 0, none⟩,
    ⟨none, .store (.tmp 6) (.tmp 5) 1, none⟩] [1, 2, 3])
  (.seq (.region [
    ⟨some 7, .faddr (.tmp 1) 1, none⟩,
    ⟨some 8, .load (.tmp 7) 1 false .plain, none⟩,
    ⟨some 9, .faddr (.tmp 3) 1, none⟩,
    ⟨none, .store (.tmp 9) (.tmp 8) 1, none⟩] [1, 2, 3])
  (.seq (.region [
    ⟨some 10, .faddr (.tmp 1) 2, none⟩,
    ⟨some 11, .load (.tmp 10) 1 false .plain, none⟩,
    ⟨some 12, .faddr (.tmp 3) 2, none⟩,
    ⟨none, .store (.tmp 12) (.tmp 11) 1, none⟩] [1, 2, 3])
  (.seq (.region [
    ⟨some 13, .faddr (.tmp 1) 3, none⟩,
    ⟨some 14, .load (.tmp 13) 1 false .plain, none⟩,
    ⟨some 15, .faddr (.tmp 3) 3, none⟩,
    ⟨none, .store (.tmp 15) (.tmp 14) 1, none⟩] [1, 2, 3])
  (.seq (.region [
    ⟨some 16, .faddr (.tmp 1) 4, none⟩,
    ⟨some 17, .load (.tmp 16) 1 false .plain, none⟩,
    ⟨some 18, .faddr (.tmp 3) 4, none⟩,
    ⟨none, .store (.tmp 18) (.tmp 17) 1, none⟩] [1, 2, 3])
  (.seq (.region [
    ⟨some 19, .faddr (.tmp 1) 5, none⟩,
    ⟨some 20, .load (.tmp 19) 1 false .plain, none⟩,
    ⟨some 21, .call 4 [false] [.tmp 20], none⟩,
    ⟨some 22, .faddr (.tmp 3) 5, none⟩,
    ⟨none, .store (.tmp 22) (.tmp 21) 1, none⟩] [1, 2, 3])
  (.seq (.region [
    ⟨some 23, .faddr (.tmp 1) 6, none⟩,
    ⟨some 24, .load (.tmp 23) 1 false .plain, none⟩,
    ⟨some 25, .call 9 [false] [.tmp 24], none⟩,
    ⟨some 26, .faddr (.tmp 3) 6, none⟩,
    ⟨none, .store (.tmp 26) (.tmp 25) 1, none⟩] [1, 2, 3])
  (.seq (.region [
    ⟨some 27, .faddr (.tmp 1) 7, none⟩,
    ⟨some 28, .load (.tmp 27) 1 false .plain, none⟩,
    ⟨some 29, .call 112 [false] [.tmp 28], none⟩,
    ⟨some 30, .faddr (.tmp 3) 7, none⟩,
    ⟨none, .store (.tmp 30) (.tmp 29) 1, none⟩] [1, 2, 3])
  (.seq (.region [
    ⟨some 31, .faddr (.tmp 1) 8, none⟩,
    ⟨some 32, .load (.tmp 31) 1 false .plain, none⟩,
    ⟨some 33, .call 112 [false] [.tmp 32], none⟩,
    ⟨some 34, .faddr (.tmp 3) 8, none⟩,
    ⟨none, .store (.tmp 34) (.tmp 33) 1, none⟩] [2, 3])
  (.seq (.region [
    ⟨some 35, .load (.tmp 3) 9 true .plain, none⟩,
    ⟨none, .store (.tmp 2) (.tmp 35) 9, none⟩] [2])
  .ret))))))))))))⟩
-- laws.eqMate
def c27 : CFn := ⟨54, [.tmp 4],
  (.seq (.region [
    ⟨some 2, .box (.tmp 0), none⟩,
    ⟨some 3, .box (.tmp 1), none⟩,
    ⟨some 4, .mov (.const (.bool false)), none⟩] [2, 3])
  (.seq (.seq (.region [
    ⟨some 5, .faddr (.tmp 2) 0, none⟩,
    ⟨some 6, .load (.tmp 5) 1 false .plain, none⟩,
    ⟨some 7, .faddr (.tmp 3) 0, none⟩,
    ⟨some 8, .load (.tmp 7) 1 false .plain, none⟩,
    ⟨some 9, .bin .neq (.tmp 6) (.tmp 8), none⟩] [2, 3, 9])
  (.cond (.tmp 9)
    (.seq (.region [
      ⟨some 4, .mov (.const (.bool false)), none⟩] [4])
    .ret)
    .skip))
  (.seq (.seq (.region [
    ⟨some 10, .faddr (.tmp 2) 1, none⟩,
    ⟨some 11, .load (.tmp 10) 1 false .plain, none⟩,
    ⟨some 12, .faddr (.tmp 3) 1, none⟩,
    ⟨some 13, .load (.tmp 12) 1 false .plain, none⟩,
    ⟨some 14, .beq true (.tmp 11) (.tmp 13), none⟩] [2, 3, 14])
  (.cond (.tmp 14)
    (.seq (.region [
      ⟨some 4, .mov (.const (.bool false)), none⟩] [4])
    .ret)
    .skip))
  (.seq (.seq (.region [
    ⟨some 15, .faddr (.tmp 2) 2, none⟩,
    ⟨some 16, .load (.tmp 15) 1 false .plain, none⟩,
    ⟨some 17, .faddr (.tmp 3) 2, none⟩,
    ⟨some 18, .load (.tmp 17) 1 false .plain, none⟩,
    ⟨some 19, .bin .neq (.tmp 16) (.tmp 18), none⟩] [2, 3, 19])
  (.cond (.tmp 19)
    (.seq (.region [
      ⟨some 4, .mov (.const (.bool false)), none⟩] [4])
    .ret)
    .skip))
  (.seq (.seq (.region [
    ⟨some 20, .faddr (.tmp 2) 3, none⟩,
    ⟨some 21, .load (.tmp 20) 1 false .plain, none⟩,
    ⟨some 22, .faddr (.tmp 3) 3, none⟩,
    ⟨some 23, .load (.tmp 22) 1 false .plain, none⟩,
    ⟨some 24, .beq true (.tmp 21) (.tmp 23), none⟩] [2, 3, 24])
  (.cond (.tmp 24)
    (.seq (.region [
      ⟨some 4, .mov (.const (.bool false)), none⟩] [4])
    .ret)
    .skip))
  (.seq (.seq (.region [
    ⟨some 25, .faddr (.tmp 2) 4, none⟩,
    ⟨some 26, .load (.tmp 25) 1 false .plain, none⟩,
    ⟨some 27, .faddr (.tmp 3) 4, none⟩,
    ⟨some 28, .load (.tmp 27) 1 false .plain, none⟩,
    ⟨some 29, .bin .neq (.tmp 26) (.tmp 28), none⟩] [2, 3, 29])
  (.cond (.tmp 29)
    (.seq (.region [
      ⟨some 4, .mov (.const (.bool false)), none⟩] [4])
    .ret)
    .skip))
  (.seq (.seq (.region [
    ⟨some 30, .faddr (.tmp 2) 5, none⟩,
    ⟨some 31, .load (.tmp 30) 1 false .plain, none⟩,
    ⟨some 32, .faddr (.tmp 3) 5, none⟩,
    ⟨some 33, .load (.tmp 32) 1 false .plain, none⟩,
    ⟨some 34, .call 5 [false, false] [.tmp 31, .tmp 33], none⟩,
    ⟨some 35, .un .not (.tmp 34), none⟩] [2, 3, 35])
  (.cond (.tmp 35)
    (.seq (.region [
      ⟨some 4, .mov (.const (.bool false)), none⟩] [4])
    .ret)
    .skip))
  (.seq (.seq (.region [
    ⟨some 36, .faddr (.tmp 2) 6, none⟩,
    ⟨some 37, .load (.tmp 36) 1 false .plain, none⟩,
    ⟨some 38, .faddr (.tmp 3) 6, none⟩,
    ⟨some 39, .load (.tmp 38) 1 false .plain, none⟩,
    ⟨some 40, .call 10 [false, false] [.tmp 37, .tmp 39], none⟩,
    ⟨some 41, .un .not (.tmp 40), none⟩] [2, 3, 41])
  (.cond (.tmp 41)
    (.seq (.region [
      ⟨some 4, .mov (.const (.bool false)), none⟩] [4])
    .ret)
    .skip))
  (.seq (.seq (.region [
    ⟨some 42, .faddr (.tmp 2) 7, none⟩,
    ⟨some 43, .load (.tmp 42) 1 false .plain, none⟩,
    ⟨some 44, .faddr (.tmp 3) 7, none⟩,
    ⟨some 45, .load (.tmp 44) 1 false .plain, none⟩,
    ⟨some 46, .call 115 [false, false] [.tmp 43, .tmp 45], none⟩,
    ⟨some 47, .un .not (.tmp 46), none⟩] [2, 3, 47])
  (.cond (.tmp 47)
    (.seq (.region [
      ⟨some 4, .mov (.const (.bool false)), none⟩] [4])
    .ret)
    .skip))
  (.seq (.seq (.region [
    ⟨some 48, .faddr (.tmp 2) 8, none⟩,
    ⟨some 49, .load (.tmp 48) 1 false .plain, none⟩,
    ⟨some 50, .faddr (.tmp 3) 8, none⟩,
    ⟨some 51, .load (.tmp 50) 1 false .plain, none⟩,
    ⟨some 52, .call 115 [false, false] [.tmp 49, .tmp 51], none⟩,
    ⟨some 53, .un .not (.tmp 52), none⟩] [53])
  (.cond (.tmp 53)
    (.seq (.region [
      ⟨some 4, .mov (.const (.bool false)), none⟩] [4])
    .ret)
    .skip))
  (.seq (.region [
    ⟨some 4, .mov (.const (.bool true)), none⟩] [4])
  .ret)))))))))))⟩
-- impl.MateValid
def c28b0 : CCode := (.seq (.region [
    ⟨some 68, .bin .lss (.tmp 67) (.tmp 66), none⟩] [1, 65, 66, 67, 68])
  (.seq (.cond (.tmp 68)
    .skip
    (.exit 0))
  (.seq (.block 1
    (.seq (.region [
      ⟨some 69, .iaddr 4 (.tmp 65) (.tmp 67), none⟩,
      ⟨some 70, .load (.tmp 69) 4 true .plain, none⟩,
      ⟨some 4, .alloc [.str ⟨#[]⟩, .str ⟨#[]⟩, .int .i64 0, .int .i64 0], none⟩,
      ⟨none, .store (.tmp 4) (.tmp 70) 4, none⟩] [1, 4, 65, 66, 67])
    (.seq (.region [
      ⟨some 71, .faddr (.tmp 1) 8, none⟩,
      ⟨some 72, .load (.tmp 71) 1 false .plain, none⟩,
      ⟨some 73, .faddr (.tmp 4) 0, none⟩,
      ⟨some 74, .load (.tmp 73) 1 false .plain, none⟩,
      ⟨some 75, .call 113 [false, false] [.tmp 72, .tmp 74], none⟩,
      ⟨some 76, .bin .geq (.tmp 75) (.const (.int .i64 0)), none⟩] [1, 65, 66, 67, 76])
    (.cond (.tmp 76)
      (.seq (.region [
        ⟨some 2, .mov (.const (.bool false)), none⟩] [2])
      .ret)
      .skip))))
  (.region [
    ⟨some 77, .bin .add (.tmp 67) (.const (.int .i64 1)), none⟩,
    ⟨some 67, .mov (.tmp 77), none⟩] [1, 65, 66, 67]))))
def c28b1 : CCode := (.seq (.region [
    ⟨some 102, .bin .lss (.tmp 101) (.tmp 100), none⟩] [99, 100, 101, 102])
  (.seq (.cond (.tmp 102)
    .skip
    (.exit 2))
  (.seq (.block 3
    (.seq (.region [
      ⟨some 103, .iaddr 11 (.tmp 99) (.tmp 101), none⟩,
      ⟨some 104, .load (.tmp 103) 11 true .plain, none⟩,
      ⟨some 6, .alloc [.str ⟨#[]⟩, .int .i64 0, .str ⟨#[]⟩, .int .i64 0, .int .i64 0, .int .i64 0, .int .i64 0, .int .i64 0, .int .i64 0, .int .i64 0, .int .i64 0], none⟩,
      ⟨none, .store (.tmp 6) (.tmp 104) 11, none⟩] [6, 99, 100, 101])
    (.seq (.region [
      ⟨some 105, .load (.tmp 6) 11 true .plain, none⟩,
      ⟨some 106, .call 1 [false] [.tmp 105], none⟩,
      ⟨some 107, .un .not (.tmp 106), none⟩,
      ⟨some 108, .mov (.tmp 107), none⟩,
      ⟨some 109, .faddr (.tmp 6) 0, some (108, true)⟩,
      ⟨some 110, .faddr (.tmp 109) 2, some (108, true)⟩,
      ⟨some 111, .load (.tmp 110) 1 false .plain, some (108, true)⟩,
      ⟨some 112, .bin .eql (.tmp 111) (.const (.str ⟨#[]⟩)), some (108, true)⟩,
      ⟨some 113, .pick (.tmp 108) (.tmp 112) (.const (.bool false)), none⟩] [99, 100, 101, 113])
    (.cond (.tmp 113)
      (.seq (.region [
        ⟨some 2, .mov (.const (.bool false)), none⟩] [2])
      .ret)
      .skip))))
  (.region [
    ⟨some 114, .bin .add (.tmp 101) (.const (.int .i64 1)), none⟩,
    ⟨some 101, .mov (.tmp 114), none⟩] [99, 100, 101]))))
def c28 : CFn := ⟨115, [.tmp 2],
  (.seq (.region [
    ⟨some 1, .box (.tmp 0), none⟩,
    ⟨some 2, .mov (.const (.bool false)), none⟩] [1])
  (.seq (.seq (.region [
    ⟨some 7, .faddr (.tmp 1) 0, none⟩,
    ⟨some 8, .load (.tmp 7) 1 false .plain, none⟩,
    ⟨some 9, .call 105 [false] [.tmp 8], none⟩,
    ⟨some 10, .un .not (.tmp 9), none⟩,
    ⟨some 11, .mov (.tmp 10), none⟩,
    ⟨some 12, .faddr (.tmp 1) 2, some (11, false)⟩,
    ⟨some 13, .load (.tmp 12) 1 false .plain, some (11, false)⟩,
    ⟨some 14, .call 85 [false, false, false] [.tmp 13, .const (.int .i64 0), .const (.int .i64 1000000)], some (11, false)⟩,
    ⟨some 15, .un .not (.tmp 14), some (11, false)⟩,
    ⟨some 16, .pick (.tmp 11) (.const (.bool true)) (.tmp 15), none⟩,
    ⟨some 17, .mov (.tmp 16), none⟩,
    ⟨some 18, .faddr (.tmp 1) 4, some (17, false)⟩,
    ⟨some 19, .load (.tmp 18) 1 false .plain, some (17, false)⟩,
    ⟨some 20, .call 85 [false, false, false] [.tmp 19, .const (.int .i64 0), .const (.int .i64 1000000)], some (17, false)⟩,
    ⟨some 21, .un .not (.tmp 20), some (17, false)⟩,
    ⟨some 22, .pick (.tmp 17) (.const (.bool true)) (.tmp 21), none⟩,
    ⟨some 23, .mov (.tmp 22), none⟩,
    ⟨some 24, .faddr (.tmp 1) 5, some (23, false)⟩,
    ⟨some 25, .load (.tmp 24) 1 false .plain, some (23, false)⟩,
    ⟨some 26, .call 6 [false] [.tmp 25], some (23, false)⟩,
    ⟨some 27, .un .not (.tmp 26), some (23, false)⟩,
    ⟨some 28, .pick (.tmp 23) (.const (.bool true)) (.tmp 27), none⟩,
    ⟨some 29, .mov (.tmp 28), none⟩,
    ⟨some 30, .faddr (.tmp 1) 3, some (29, false)⟩,
    ⟨some 31, .load (.tmp 30) 1 false .plain, some (29, false)⟩,
    ⟨some 32, .un .not (.tmp 31), some (29, false)⟩,
    ⟨some 33, .mov (.tmp 32), some (29, false)⟩,
    ⟨some 34, .faddr (.tmp 1) 5, some (33, true)⟩,
    ⟨some 35, .load (.tmp 34) 1 false .plain, some (33, true)⟩,
    ⟨some 36, .len false (.tmp 35), some (33, true)⟩,
    ⟨some 37, .bin .gtr (.tmp 36) (.const (.int .i64 0)), some (33, true)⟩,
    ⟨some 38, .pick (.tmp 33) (.tmp 37) (.const (.bool false)), some (29, false)⟩,
    ⟨some 39, .pick (.tmp 29) (.const (.bool true)) (.tmp 38), none⟩,
    ⟨some 40, .mov (.tmp 39), none⟩,
    ⟨some 41, .faddr (.tmp 1) 6, some (40, false)⟩,
    ⟨some 42, .load (.tmp 41) 1 false .plain, some (40, false)⟩,
    ⟨some 43, .faddr (.tmp 1) 2, some (40, false)⟩,
    ⟨some 44, .load (.tmp 43) 1 false .plain, some (40, false)⟩,
    ⟨some 45, .call 11 [false, false] [.tmp 42, .tmp 44], some (40, false)⟩,
    ⟨some 46, .un .not (.tmp 45), some (40, false)⟩,
    ⟨some 47, .pick (.tmp 40) (.const (.bool true)) (.tmp 46), none⟩,
    ⟨some 48, .mov (.tmp 47), none⟩,
    ⟨some 49, .faddr (.tmp 1) 7, some (48, false)⟩,
    ⟨some 50, .load (.tmp 49) 1 false .plain, some (48, false)⟩,
    ⟨some 51, .faddr (.tmp 1) 2, some (48, false)⟩,
    ⟨some 52, .load (.tmp 51) 1 false .plain, some (48, false)⟩,
    ⟨some 53, .call 114 [false, false] [.tmp 50, .tmp 52], some (48, false)⟩,
    ⟨some 54, .un .not (.tmp 53), some (48, false)⟩,
    ⟨some 55, .pick (.tmp 48) (.const (.bool true)) (.tmp 54), none⟩,
    ⟨some 56, .mov (.tmp 55), none⟩,
    ⟨some 57, .faddr (.tmp 1) 8, some (56, false)⟩,
    ⟨some 58, .load (.tmp 57) 1 false .plain, some (56, false)⟩,
    ⟨some 59, .faddr (.tmp 1) 2, some (56, false)⟩,
    ⟨some 60, .load (.tmp 59) 1 false .plain, some (56, false)⟩,
    ⟨some 61, .call 114 [false, false] [.tmp 58, .tmp 60], some (56, false)⟩,
    ⟨some 62, .un .not (.tmp 61), some (56, false)⟩,
    ⟨some 63, .pick (.tmp 56) (.const (.bool true)) (.tmp 62), none⟩] [1, 63])
  (.cond (.tmp 63)
    (.seq (.region [
      ⟨some 2, .mov (.const (.bool false)), none⟩] [2])
    .ret)
    .skip))
  (.seq (.seq (.region [
    ⟨some 64, .faddr (.tmp 1) 7, none⟩,
    ⟨some 65, .load (.tmp 64) 1 false .plain, none⟩,
    ⟨some 66, .len false (.tmp 65), none⟩,
    ⟨some 67, .mov (.const (.int .i64 0)), none⟩] [1, 65, 66, 67])
  (.block 0
    (.loop [1, 65, 66, 67] c28b0)))
  (.seq (.seq (.region [
    ⟨some 78, .faddr (.tmp 1) 1, none⟩,
    ⟨some 79, .load (.tmp 78) 1 false .plain, none⟩,
    ⟨some 80, .un .not (.tmp 79), none⟩] [1, 80])
  (.cond (.tmp 80)
    (.seq (.seq (.region [
      ⟨some 81, .faddr (.tmp 1) 3, none⟩,
      ⟨some 82, .load (.tmp 81) 1 false .plain, none⟩,
      ⟨some 83, .mov (.tmp 82), none⟩,
      ⟨some 84, .faddr (.tmp 1) 7, some (83, false)⟩,
      ⟨some 85, .load (.tmp 84) 1 false .plain, some (83, false)⟩,
      ⟨some 86, .len false (.tmp 85), some (83, false)⟩,
      ⟨some 87, .faddr (.tmp 1) 8, some (83, false)⟩,
      ⟨some 88, .load (.tmp 87) 1 false .plain, some (83, false)⟩,
      ⟨some 89, .len false (.tmp 88), some (83, false)⟩,
      ⟨some 90, .bin .add (.tmp 86) (.tmp 89), some (83, false)⟩,
      ⟨some 91, .bin .gtr (.tmp 90) (.const (.int .i64 0)), some (83, false)⟩,
      ⟨some 92, .pick (.tmp 83) (.const (.bool true)) (.tmp 91), none⟩,
      ⟨some 93, .mov (.tmp 92), none⟩,
      ⟨some 94, .faddr (.tmp 1) 4, some (93, false)⟩,
      ⟨some 95, .load (.tmp 94) 1 false .plain, some (93, false)⟩,
      ⟨some 96, .bin .neq (.tmp 95) (.const (.int .i64 0)), some (93, false)⟩,
      ⟨some 97, .pick (.tmp 93) (.const (.bool true)) (.tmp 96), none⟩] [1, 97])
    (.cond (.tmp 97)
      (.seq (.region [
        ⟨some 2, .mov (.const (.bool false)), none⟩] [2])
      .ret)
      .skip))
    (.seq (.region [
      ⟨some 98, .faddr (.tmp 1) 6, none⟩,
      ⟨some 99, .load (.tmp 98) 1 false .plain, none⟩,
      ⟨some 100, .len false (.tmp 99), none⟩,
      ⟨some 101, .mov (.const (.int .i64 0)), none⟩] [99, 100, 101])
    (.block 2
      (.loop [99, 100, 101] c28b1))))
    .skip))
  (.seq (.region [
    ⟨some 2, .mov (.const (.bool true)), none⟩] [2])
  .ret)))))⟩
-- spec.MateValid
def c29b0 : CCode := (.seq (.seq (.region [
    ⟨some 62, .mov (.tmp 3), none⟩,
    ⟨some 63, .faddr (.tmp 1) 7, none⟩,
    ⟨some 64, .load (.tmp 63) 1 false .plain, none⟩,
    ⟨some 65, .len false (.tmp 64), none⟩,
    ⟨some 66, .bin .lss (.tmp 62) (.tmp 65), none⟩] [1, 3, 66])
  (.cond (.tmp 66)
    .skip
    (.exit 0)))
  (.seq (.block 1
    (.seq (.quiet [
      ⟨some 69, .faddr (.tmp 1) 8, none⟩,
      ⟨some 70, .load (.tmp 69) 1 false .plain, none⟩,
      ⟨some 71, .faddr (.tmp 1) 7, none⟩,
      ⟨some 72, .load (.tmp 71) 1 false .plain, none⟩,
      ⟨some 73, .mov (.tmp 3), none⟩,
      ⟨some 74, .iaddr 4 (.tmp 72) (.tmp 73), none⟩,
      ⟨some 75, .faddr (.tmp 74) 0, none⟩,
      ⟨some 76, .load (.tmp 75) 1 false .plain, none⟩,
      ⟨some 77, .call 110 [false, false] [.tmp 70, .tmp 76], none⟩,
      ⟨some 78, .bin .geq (.tmp 77) (.const (.int .i64 0)), none⟩] [1, 3, 78])
    (.cond (.tmp 78)
      (.seq (.region [
        ⟨some 2, .mov (.const (.bool false)), none⟩] [2])
      .ret)
      .skip)))
  (.region [
    ⟨some 67, .mov (.tmp 3), none⟩,
    ⟨some 68, .bin .add (.tmp 67) (.const (.int .i64 1)), none⟩,
    ⟨some 3, .mov (.tmp 68), none⟩] [1, 3])))
def c29b1 : CCode := (.seq (.seq (.region [
    ⟨some 81, .mov (.tmp 4), none⟩,
    ⟨some 82, .faddr (.tmp 1) 6, none⟩,
    ⟨some 83, .load (.tmp 82) 1 false .plain, none⟩,
    ⟨some 84, .len false (.tmp 83), none⟩,
    ⟨some 85, .bin .lss (.tmp 81) (.tmp 84), none⟩] [1, 4, 85])
  (.cond (.tmp 85)
    .skip
    (.exit 2)))
  (.seq (.block 3
    (.seq (.region [
      ⟨some 88, .faddr (.tmp 1) 6, none⟩,
      ⟨some 89, .load (.tmp 88) 1 false .plain, none⟩,
      ⟨some 90, .mov (.tmp 4), none⟩,
      ⟨some 91, .iaddr 11 (.tmp 89) (.tmp 90), none⟩,
      ⟨some 92, .load (.tmp 91) 11 true .plain, none⟩,
      ⟨some 93, .call 2 [false] [.tmp 92], none⟩,
      ⟨some 94, .un .not (.tmp 93), none⟩,
      ⟨some 95, .mov (.tmp 94), none⟩,
      ⟨some 96, .faddr (.tmp 1) 6, some (95, true)⟩,
      ⟨some 97, .load (.tmp 96) 1 false .plain, some (95, true)⟩,
      ⟨some 98, .mov (.tmp 4), some (95, true)⟩,
      ⟨some 99, .iaddr 11 (.tmp 97) (.tmp 98), some (95, true)⟩,
      ⟨some 100, .faddr (.tmp 99) 0, some (95, true)⟩,
      ⟨some 101, .faddr (.tmp 100) 2, some (95, true)⟩,
      ⟨some 102, .load (.tmp 101) 1 false .plain, some (95, true)⟩,
      ⟨some 103, .bin .eql (.tmp 102) (.const (.str ⟨#[]⟩)), some (95, true)⟩,
      ⟨some 104, .pick (.tmp 95) (.tmp 103) (.const (.bool false)), none⟩] [1, 4, 104])
    (.cond (.tmp 104)
      (.seq (.region [
        ⟨some 2, .mov (.const (.bool false)), none⟩] [2])
      .ret)
      .skip)))
  (.region [
    ⟨some 86, .mov (.tmp 4), none⟩,
    ⟨some 87, .bin .add (.tmp 86) (.const (.int .i64 1)), none⟩,
    ⟨some 4, .mov (.tmp 87), none⟩] [1, 4])))
def c29 : CFn := ⟨123, [.tmp 2],
  (.seq (.region [
    ⟨some 1, .box (.tmp 0), none⟩,
    ⟨some 2, .mov (.const (.bool false)), none⟩] [1])
  (.seq (.seq (.region [
    ⟨some 5, .faddr (.tmp 1) 0, none⟩,
    ⟨some 6, .load (.tmp 5) 1 false .plain, none⟩,
    ⟨some 7, .call 101 [false] [.tmp 6], none⟩,
    ⟨some 8, .un .not (.tmp 7), none⟩,
    ⟨some 9, .mov (.tmp 8), none⟩,
    ⟨some 10, .faddr (.tmp 1) 2, some (9, false)⟩,
    ⟨some 11, .load (.tmp 10) 1 false .plain, some (9, false)⟩,
    ⟨some 12, .call 102 [false, false, false] [.tmp 11, .const (.int .i64 0), .const (.int .i64 1000000)], some (9, false)⟩,
    ⟨some 13, .un .not (.tmp 12), some (9, false)⟩,
    ⟨some 14, .pick (.tmp 9) (.const (.bool true)) (.tmp 13), none⟩,
    ⟨some 15, .mov (.tmp 14), none⟩,
    ⟨some 16, .faddr (.tmp 1) 4, some (15, false)⟩,
    ⟨some 17, .load (.tmp 16) 1 false .plain, some (15, false)⟩,
    ⟨some 18, .call 102 [false, false, false] [.tmp 17, .const (.int .i64 0), .const (.int .i64 1000000)], some (15, false)⟩,
    ⟨some 19, .un .not (.tmp 18), some (15, false)⟩,
    ⟨some 20, .pick (.tmp 15) (.const (.bool true)) (.tmp 19), none⟩,
    ⟨some 21, .mov (.tmp 20), none⟩,
    ⟨some 22, .faddr (.tmp 1) 5, some (21, false)⟩,
    ⟨some 23, .load (.tmp 22) 1 false .plain, some (21, false)⟩,
    ⟨some 24, .call 7 [false] [.tmp 23], some (21, false)⟩,
    ⟨some 25, .un .not (.tmp 24), some (21, false)⟩,
    ⟨some 26, .pick (.tmp 21) (.const (.bool true)) (.tmp 25), none⟩,
    ⟨some 27, .mov (.tmp 26), none⟩,
    ⟨some 28, .faddr (.tmp 1) 5, some (27, false)⟩,
    ⟨some 29, .load (.tmp 28) 1 false .plain, some (27, false)⟩,
    ⟨some 30, .len false (.tmp 29), some (27, false)⟩,
    ⟨some 31, .bin .gtr (.tmp 30) (.const (.int .i64 0)), some (27, false)⟩,
    ⟨some 32, .mov (.tmp 31), some (27, false)⟩,
    ⟨some 33, .faddr (.tmp 1) 3, some (32, true)⟩,
    ⟨some 34, .load (.tmp 33) 1 false .plain, some (32, true)⟩,
    ⟨some 35, .un .not (.tmp 34), some (32, true)⟩,
    ⟨some 36, .pick (.tmp 32) (.tmp 35) (.const (.bool false)), some (27, false)⟩,
    ⟨some 37, .pick (.tmp 27) (.const (.bool true)) (.tmp 36), none⟩,
    ⟨some 38, .mov (.tmp 37), none⟩,
    ⟨some 39, .faddr (.tmp 1) 6, some (38, false)⟩,
    ⟨some 40, .load (.tmp 39) 1 false .plain, some (38, false)⟩,
    ⟨some 41, .faddr (.tmp 1) 2, some (38, false)⟩,
    ⟨some 42, .load (.tmp 41) 1 false .plain, some (38, false)⟩,
    ⟨some 43, .call 12 [false, false] [.tmp 40, .tmp 42], some (38, false)⟩,
    ⟨some 44, .un .not (.tmp 43), some (38, false)⟩,
    ⟨some 45, .pick (.tmp 38) (.const (.bool true)) (.tmp 44), none⟩,
    ⟨some 46, .mov (.tmp 45), none⟩,
    ⟨some 47, .faddr (.tmp 1) 7, some (46, false)⟩,
    ⟨some 48, .load (.tmp 47) 1 false .plain, some (46, false)⟩,
    ⟨some 49, .faddr (.tmp 1) 2, some (46, false)⟩,
    ⟨some 50, .load (.tmp 49) 1 false .plain, some (46, false)⟩,
    ⟨some 51, .call 111 [false, false] [.tmp 48, .tmp 50], some (46, false)⟩,
    ⟨some 52, .un .not (.tmp 51), some (46, false)⟩,
    ⟨some 53, .pick (.tmp 46) (.const (.bool true)) (.tmp 52), none⟩,
    ⟨some 54, .mov (.tmp 53), none⟩,
    ⟨some 55, .faddr (.tmp 1) 8, some (54, false)⟩,
    ⟨some 56, .load (.tmp 55) 1 false .plain, some (54, false)⟩,
    ⟨some 57, .faddr (.tmp 1) 2, some (54, false)⟩,
    ⟨some 58, .load (.tmp 57) 1 false .plain, some (54, false)⟩,
    ⟨some 59, .call 111 [false, false] [.tmp 56, .tmp 58], some (54, false)⟩,
    ⟨some 60, .un .not (.tmp 59), some (54, false)⟩,
    ⟨some 61, .pick (.tmp 54) (.const (.bool true)) (.tmp 60), none⟩] [1, 61])
  (.cond (.tmp 61)
    (.seq (.region [
      ⟨some 2, .mov (.const (.bool false)), none⟩] [2])
    .ret)
    .skip))
  (.seq (.seq (.region [
    ⟨some 3, .mov (.const (.int .i64 0)), none⟩] [1, 3])
  (.block 0
    (.loop [1, 3] c29b0)))
  (.seq (.seq (.region [
    ⟨some 79, .faddr (.tmp 1) 1, none⟩,
    ⟨some 80, .load (.tmp 79) 1 false .plain, none⟩] [1, 80])
  (.cond (.tmp 80)
    (.seq (.region [
      ⟨some 2, .mov (.const (.bool true)), none⟩] [2])
    .ret)
    .skip))
  (.seq (.seq (.region [
    ⟨some 4, .mov (.const (.int .i64 0)), none⟩] [1, 4])
  (.block 2
    (.loop [1, 4] c29b1)))
  (.seq (.region [
    ⟨some 105, .faddr (.tmp 1) 3, none⟩,
    ⟨some 106, .load (.tmp 105) 1 false .plain, none⟩,
    ⟨some 107, .un .not (.tmp 106), none⟩,
    ⟨some 108, .mov (.tmp 107), none⟩,
    ⟨some 109, .faddr (.tmp 1) 4, some (108, true)⟩,
    ⟨some 110, .load (.tmp 109) 1 false .plain, some (108, true)⟩,
    ⟨some 111, .bin .eql (.tmp 110) (.const (.int .i64 0)), some (108, true)⟩,
    ⟨some 112, .pick (.tmp 108) (.tmp 111) (.const (.bool false)), none⟩,
    ⟨some 113, .mov (.tmp 112), none⟩,
    ⟨some 114, .faddr (.tmp 1) 7, some (113, true)⟩,
    ⟨some 115, .load (.tmp 114) 1 false .plain, some (113, true)⟩,
    ⟨some 116, .len false (.tmp 115), some (113, true)⟩,
    ⟨some 117, .faddr (.tmp 1) 8, some (113, true)⟩,
    ⟨some 118, .load (.tmp 117) 1 false .plain, some (113, true)⟩,
    ⟨some 119, .len false (.tmp 118), some (113, true)⟩,
    ⟨some 120, .bin .add (.tmp 116) (.tmp 119), some (113, true)⟩,
    ⟨some 121, .bin .eql (.tmp 120) (.const (.int .i64 0)), some (113, true)⟩,
    ⟨some 122, .pick (.tmp 113) (.tmp 121) (.const (.bool false)), none⟩,
    ⟨some 2, .mov (.tmp 122), none⟩] [2])
  .ret))))))⟩
-- laws.szMate
def c30 : CFn := ⟨37, [.tmp 4],
  (.seq (.region [
    ⟨some 2, .box (.tmp 0), none⟩,
    ⟨some 4, .mov (.const (.int .i64 0)), none⟩] [1, 2])
  (.seq (.region [
    ⟨some 5, .mov (.tmp 1), none⟩,
    ⟨some 6, .faddr (.tmp 2) 0, none⟩,
    ⟨some 7, .load (.tmp 6) 1 false .plain, none⟩,
    ⟨some 8, .len true (.tmp 7), none⟩,
    ⟨some 9, .bin .sub (.tmp 5) (.tmp 8), none⟩,
    ⟨some 1, .mov (.tmp 9), none⟩] [1, 2])
  (.seq (.seq (.region [
    ⟨some 10, .mov (.tmp 1), none⟩,
    ⟨some 11, .bin .lss (.tmp 10) (.const (.int .i64 0)), none⟩] [1, 2, 11])
  (.cond (.tmp 11)
    (.seq (.region [
      ⟨some 4, .mov (.const (.int .i64 (-1))), none⟩] [4])
    .ret)
    .skip))
  (.seq (.region [
    ⟨some 12, .faddr (.tmp 2) 5, none⟩,
    ⟨some 13, .load (.tmp 12) 1 false .plain, none⟩,
    ⟨some 14, .mov (.tmp 1), none⟩,
    ⟨some 15, .call 8 [false, false] [.tmp 13, .tmp 14], none⟩,
    ⟨some 1, .mov (.tmp 15), none⟩] [1, 2])
  (.seq (.seq (.region [
    ⟨some 16, .mov (.tmp 1), none⟩,
    ⟨some 17, .bin .lss (.tmp 16) (.const (.int .i64 0)), none⟩] [1, 2, 17])
  (.cond (.tmp 17)
    (.seq (.region [
      ⟨some 4, .mov (.const (.int .i64 (-1))), none⟩] [4])
    .ret)
    .skip))
  (.seq (.region [
    ⟨some 18, .faddr (.tmp 2) 6, none⟩,
    ⟨some 19, .load (.tmp 18) 1 false .plain, none⟩,
    ⟨some 20, .mov (.tmp 1), none⟩,
    ⟨some 21, .call 13 [false, false] [.tmp 19, .tmp 20], none⟩,
    ⟨some 1, .mov (.tmp 21), none⟩] [1, 2])
  (.seq (.seq (.region [
    ⟨some 22, .mov (.tmp 1), none⟩,
    ⟨some 23, .bin .lss (.tmp 22) (.const (.int .i64 0)), none⟩] [1, 2, 23])
  (.cond (.tmp 23)
    (.seq (.region [
      ⟨some 4, .mov (.const (.int .i64 (-1))), none⟩] [4])
    .ret)
    .skip))
  (.seq (.region [
    ⟨some 24, .faddr (.tmp 2) 7, none⟩,
    ⟨some 25, .load (.tmp 24) 1 false .plain, none⟩,
    ⟨some 26, .mov (.tmp 1), none⟩,
    ⟨some 27, .call 109 [false, false] [.tmp 25, .tmp 26], none⟩,
    ⟨some 1, .mov (.tmp 27), none⟩] [1, 2])
  (.seq (.seq (.region [
    ⟨some 28, .mov (.tmp 1), none⟩,
    ⟨some 29, .bin .lss (.tmp 28) (.const (.int .i64 0)), none⟩] [1, 2, 29])
  (.cond (.tmp 29)
    (.seq (.region [
      ⟨some 4, .mov (.const (.int .i64 (-1))), none⟩] [4])
    .ret)
    .skip))
  (.seq (.region [
    ⟨some 30, .faddr (.tmp 2) 8, none⟩,
    ⟨some 31, .load (.tmp 30) 1 false .plain, none⟩,
    ⟨some 32, .mov (.tmp 1), none⟩,
    ⟨some 33, .call 109 [false, false] [.tmp 31, .tmp 32], none⟩,
    ⟨some 1, .mov (.tmp 33), none⟩] [1])
  (.seq (.seq (.region [
    ⟨some 34, .mov (.tmp 1), none⟩,
    ⟨some 35, .bin .lss (.tmp 34) (.const (.int .i64 0)), none⟩] [1, 35])
  (.cond (.tmp 35)
    (.seq (.region [
      ⟨some 4, .mov (.const (.int .i64 (-1))), none⟩] [4])
    .ret)
    .skip))
  (.seq (.region [
    ⟨some 36, .mov (.tmp 1), none⟩,
    ⟨some 4, .mov (.tmp 36), none⟩] [4])
  .ret))))))))))))⟩
-- laws.heldMate
def c45 : CFn := ⟨30, [.tmp 4],
  (.seq (.region [
    ⟨some 2, .box (.tmp 0), none⟩,
    ⟨some 4, .mov (.const (.int .i64 0)), none⟩] [1, 2])
  (.seq (.region [
    ⟨some 5, .faddr (.tmp 2) 5, none⟩,
    ⟨some 6, .load (.tmp 5) 1 false .plain, none⟩,
    ⟨some 7, .mov (.tmp 1), none⟩,
    ⟨some 8, .call 127 [false, false] [.tmp 6, .tmp 7], none⟩,
    ⟨some 1, .mov (.tmp 8), none⟩] [1, 2])
  (.seq (.seq (.region [
    ⟨some 9, .mov (.tmp 1), none⟩,
    ⟨some 10, .bin .lss (.tmp 9) (.const (.int .i64 0)), none⟩] [1, 2, 10])
  (.cond (.tmp 10)
    (.seq (.region [
      ⟨some 4, .mov (.const (.int .i64 (-1))), none⟩] [4])
    .ret)
    .skip))
  (.seq (.region [
    ⟨some 11, .faddr (.tmp 2) 6, none⟩,
    ⟨some 12, .load (.tmp 11) 1 false .plain, none⟩,
    ⟨some 13, .mov (.tmp 1), none⟩,
    ⟨some 14, .call 17 [false, false] [.tmp 12, .tmp 13], none⟩,
    ⟨some 1, .mov (.tmp 14), none⟩] [1, 2])
  (.seq (.seq (.region [
    ⟨some 15, .mov (.tmp 1), none⟩,
    ⟨some 16, .bin .lss (.tmp 15) (.const (.int .i64 0)), none⟩] [1, 2, 16])
  (.cond (.tmp 16)
    (.seq (.region [
      ⟨some 4, .mov (.const (.int .i64 (-1))), none⟩] [4])
    .ret)
    .skip))
  (.seq (.region [
    ⟨some 17, .faddr (.tmp 2) 7, none⟩,
    ⟨some 18, .load (.tmp 17) 1 false .plain, none⟩,
    ⟨some 19, .mov (.tmp 1), none⟩,
    ⟨some 20, .call 129 [false, false] [.tmp 18, .tmp 19], none⟩,
    ⟨some 1, .mov (.tmp 20), none⟩] [1, 2])
  (.seq (.seq (.region [
    ⟨some 21, .mov (.tmp 1), none⟩,
    ⟨some 22, .bin .lss (.tmp 21) (.const (.int .i64 0)), none⟩] [1, 2, 22])
  (.cond (.tmp 22)
    (.seq (.region [
      ⟨some 4, .mov (.const (.int .i64 (-1))), none⟩] [4])
    .ret)
    .skip))
  (.seq (.region [
    ⟨some 23, .faddr (.tmp 2) 8, none⟩,
    ⟨some 24, .load (.tmp 23) 1 false .plain, none⟩,
    ⟨some 25, .mov (.tmp 1), none⟩,
    ⟨some 26, .call 129 [false, false] [.tmp 24, .tmp 25], none⟩,
    ⟨some 1, .mov (.tmp 26), none⟩] [1])
  (.seq (.seq (.region [
    ⟨some 27, .mov (.tmp 1), none⟩,
    ⟨some 28, .bin .lss (.tmp 27) (.const (.int .i64 0)), none⟩] [1, 28])
  (.cond (.tmp 28)
    (.seq (.region [
      ⟨some 4, .mov (.const (.int .i64 (-1))), none⟩] [4])
    .ret)
    .skip))
  (.seq (.region [
    ⟨some 29, .mov (.tmp 1), none⟩,
    ⟨some 4, .mov (.tmp 29), none⟩] [4])
  .ret))))))))))⟩
-- laws.markMate
def c46 : CFn := ⟨22, [.tmp 4],
  (.seq (.region [
    ⟨some 2, .box (.tmp 0), none⟩,
    ⟨some 4, .mov (.const (.int .i64 0)), none⟩] [1, 2])
  (.seq (.region [
    ⟨some 5, .faddr (.tmp 2) 5, none⟩,
    ⟨some 6, .load (.tmp 5) 1 false .plain, none⟩,
    ⟨some 7, .mov (.tmp 1), none⟩,
    ⟨some 8, .call 71 [true, false] [.tmp 6, .tmp 7], none⟩,
    ⟨some 1, .mov (.tmp 8), none⟩] [1, 2])
  (.seq (.region [
    ⟨some 9, .faddr (.tmp 2) 6, none⟩,
    ⟨some 10, .load (.tmp 9) 1 false .plain, none⟩,
    ⟨some 11, .mov (.tmp 1), none⟩,
    ⟨some 12, .call 19 [true, false] [.tmp 10, .tmp 11], none⟩,
    ⟨some 1, .mov (.tmp 12), none⟩] [1, 2])
  (.seq (.region [
    ⟨some 13, .faddr (.tmp 2) 7, none⟩,
    ⟨some 14, .load (.tmp 13) 1 false .plain, none⟩,
    ⟨some 15, .mov (.tmp 1), none⟩,
    ⟨some 16, .call 128 [true, false] [.tmp 14, .tmp 15], none⟩,
    ⟨some 1, .mov (.tmp 16), none⟩] [1, 2])
  (.seq (.region [
    ⟨some 17, .faddr (.tmp 2) 8, none⟩,
    ⟨some 18, .load (.tmp 17) 1 false .plain, none⟩,
    ⟨some 19, .mov (.tmp 1), none⟩,
    ⟨some 20, .call 128 [true, false] [.tmp 18, .tmp 19], none⟩,
    ⟨some 1, .mov (.tmp 20), none⟩] [1])
  (.seq (.region [
    ⟨some 21, .mov (.tmp 1), none⟩,
    ⟨some 4, .mov (.tmp 21), none⟩] [4])
  .ret))))))⟩
-- laws.toMateParcel
def c60 : CFn := ⟨27, [.cell 2 7 true],
  (.seq (.region [
    ⟨some 1, .box (.tmp 0), none⟩,
    ⟨some 2, .alloc [.int .i64 0, .str ⟨#[]⟩, .int .i64 0, .sl .own 7 [], .str ⟨#[]⟩, .str ⟨#[]⟩, .int .i64 0], none⟩] [1, 2])
  (.seq (.region [
    ⟨some 3, .alloc [.int .i64 0, .str ⟨#[]⟩, .int .i64 0, .sl .own 7 [], .str ⟨#[]⟩, .str ⟨#[]⟩, .int .i64 0], none⟩] [1, 2, 3])
  (.seq (.region [
    ⟨some 4, .faddr (.tmp 1) 0, none⟩,
    ⟨some 5, .load (.tmp 4) 1 false .plain, none⟩,
    ⟨some 6, .faddr (.tmp 3) 0, none⟩,
    ⟨none, .store (.tmp 6) (.tmp 5) 1, none⟩] [1, 2, 3])
  (.seq (.region [
    ⟨some 7, .faddr (.tmp 1) 1, none⟩,
    ⟨some 8, .load (.tmp 7) 1 false .plain, none⟩,
    ⟨some 9, .faddr (.tmp 3) 1, none⟩,
    ⟨none, .store (.tmp 9) (.tmp 8) 1, none⟩] [1, 2, 3])
  (.seq (.region [
    ⟨some 10, .faddr (.tmp 1) 2, none⟩,
    ⟨some 11, .load (.tmp 10) 1 false .plain, none⟩,
    ⟨some 12, .faddr (.tmp 3) 2, none⟩,
    ⟨none, .store (.tmp 12) (.tmp 11) 1, none⟩] [1, 2, 3])
  (.seq (.region [
    ⟨some 13, .faddr (.tmp 1) 3, none⟩,
    ⟨some 14, .load (.tmp 13) 1 false .plain, none⟩,
    ⟨some 15, .call 4 [false] [.tmp 14], none⟩,
    ⟨some 16, .faddr (.tmp 3) 3, none⟩,
    ⟨none, .store (.tmp 16) (.tmp 15) 1, none⟩] [1, 2, 3])
  (.seq (.region [
    ⟨some 17, .faddr (.tmp 1) 4, none⟩,
    ⟨some 18, .load (.tmp 17) 1 false .plain, none⟩,
    ⟨some 19, .faddr (.tmp 3) 4, none⟩,
    ⟨none, .store (.tmp 19) (.tmp 18) 1, none⟩] [1, 2, 3])
  (.seq (.region [
    ⟨some 20, .faddr (.tmp 1) 5, none⟩,
    ⟨some 21, .load (.tmp 20) 1 false .plain, none⟩,
    ⟨some 22, .faddr (.tmp 3) 5, none⟩,
    ⟨none, .store (.tmp 22) (.tmp 21) 1, none⟩] [1, 2, 3])
  (.seq (.region [
    ⟨some 23, .faddr (.tmp 1) 6, none⟩,
    ⟨some 24, .load (.tmp 23) 1 false .plain, none⟩,
    ⟨some 25, .faddr (.tmp 3) 6, none⟩,
    ⟨none, .store (.tmp 25) (.tmp 24) 1, none⟩] [2, 3])
  (.seq (.region [
    ⟨some 26, .load (.tmp 3) 7 true .plain, none⟩,
    ⟨none, .store (.tmp 2) (.tmp 26) 7, none⟩] [2])
  .ret))))))))))⟩
-- impl.MateTake
def c61b0 : CCode := (.seq (.region [
    ⟨some 104, .bin .lss (.tmp 103) (.tmp 102), none⟩] [2, 3, 4, 101, 102, 103, 104])
  (.seq (.cond (.tmp 104)
    .skip
    (.exit 1))
  (.seq (.block 2
    (.seq (.region [
      ⟨some 105, .mov (.tmp 103), none⟩,
      ⟨some 106, .iaddr 11 (.tmp 101) (.tmp 103), none⟩,
      ⟨some 107, .load (.tmp 106) 11 true .plain, none⟩,
      ⟨some 7, .alloc [.str ⟨#[]⟩, .int .i64 0, .str ⟨#[]⟩, .int .i64 0, .int .i64 0, .int .i64 0, .int .i64 0, .int .i64 0, .int .i64 0, .int .i64 0, .int .i64 0], none⟩,
      ⟨some 6, .mov (.tmp 105), none⟩,
      ⟨none, .store (.tmp 7) (.tmp 107) 11, none⟩] [2, 3, 4, 6, 7, 101, 102, 103])
    (.seq (.region [
      ⟨some 108, .faddr (.tmp 7) 0, none⟩,
      ⟨some 109, .faddr (.tmp 108) 2, none⟩,
      ⟨some 110, .load (.tmp 109) 1 false .plain, none⟩,
      ⟨some 111, .faddr (.tmp 3) 4, none⟩,
      ⟨some 112, .load (.tmp 111) 1 false .plain, none⟩,
      ⟨some 113, .bin .eql (.tmp 110) (.tmp 112), none⟩,
      ⟨some 114, .mov (.tmp 113), none⟩,
      ⟨some 115, .faddr (.tmp 7) 0, some (114, true)⟩,
      ⟨some 116, .faddr (.tmp 115) 0, some (114, true)⟩,
      ⟨some 117, .load (.tmp 116) 1 false .plain, some (114, true)⟩,
      ⟨some 118, .faddr (.tmp 3) 5, some (114, true)⟩,
      ⟨some 119, .load (.tmp 118) 1 false .plain, some (114, true)⟩,
      ⟨some 120, .bin .eql (.tmp 117) (.tmp 119), some (114, true)⟩,
      ⟨some 121, .pick (.tmp 114) (.tmp 120) (.const (.bool false)), none⟩,
      ⟨some 122, .mov (.tmp 121), none⟩,
      ⟨some 123, .faddr (.tmp 7) 10, some (122, true)⟩,
      ⟨some 124, .load (.tmp 123) 1 false .plain, some (122, true)⟩,
      ⟨some 125, .faddr (.tmp 3) 6, some (122, true)⟩,
      ⟨some 126, .load (.tmp 125) 1 false .plain, some (122, true)⟩,
      ⟨some 127, .bin .add (.tmp 126) (.const (.int .i64 16)), some (122, true)⟩,
      ⟨some 128, .bin .lss (.tmp 124) (.tmp 127), some (122, true)⟩,
      ⟨some 129, .pick (.tmp 122) (.tmp 128) (.const (.bool false)), none⟩] [2, 3, 4, 6, 101, 102, 103, 129])
    (.cond (.tmp 129)
      (.region [
        ⟨some 130, .faddr (.tmp 2) 6, none⟩,
        ⟨some 131, .load (.tmp 130) 1 false .plain, none⟩,
        ⟨some 132, .mov (.tmp 6), none⟩,
        ⟨some 133, .faddr (.tmp 3) 6, none⟩,
        ⟨some 134, .load (.tmp 133) 1 false .plain, none⟩,
        ⟨some 135, .bin .add (.tmp 134) (.const (.int .i64 16)), none⟩,
        ⟨some 136, .iaddr 11 (.tmp 131) (.tmp 132), none⟩,
        ⟨some 137, .faddr (.tmp 136) 10, none⟩,
        ⟨none, .store (.tmp 137) (.tmp 135) 1, none⟩] [2, 3, 4, 101, 102, 103])
      .skip))))
  (.region [
    ⟨some 138, .bin .add (.tmp 103) (.const (.int .i64 1)), none⟩,
    ⟨some 103, .mov (.tmp 138), none⟩] [2, 3, 4, 101, 102, 103]))))
def c61 : CFn := ⟨165, [.cell 4 9 true],
  (.seq (.region [
    ⟨some 2, .box (.tmp 0), none⟩,
    ⟨some 3, .box (.tmp 1), none⟩,
    ⟨some 4, .alloc [.str ⟨#[]⟩, .bool false, .int .i64 0, .bool false, .int .i64 0, .sl .own 7 [], .sl .own 11 [], .sl .own 4 [], .sl .own 4 []], none⟩] [2, 3, 4])
  (.seq (.seq (.region [
    ⟨some 9, .load (.tmp 2) 9 true .plain, none⟩,
    ⟨some 10, .call 28 [false] [.tmp 9], none⟩,
    ⟨some 11, .un .not (.tmp 10), none⟩] [2, 3, 4, 11])
  (.cond (.tmp 11)
    (.seq (.region [
      ⟨some 12, .build [.str ⟨#[]⟩, .bool false, .int .i64 0, .bool false, .int .i64 0, .sl .own 7 [], .sl .own 11 [], .sl .own 4 [], .sl .own 4 []] [], none⟩,
      ⟨none, .store (.tmp 4) (.tmp 12) 9, none⟩] [4])
    .ret)
    .skip))
  (.seq (.region [
    ⟨some 13, .load (.tmp 2) 9 true .plain, none⟩,
    ⟨some 14, .call 117 [false] [.tmp 13], none⟩,
    ⟨none, .store (.tmp 2) (.tmp 14) 9, none⟩] [2, 3, 4])
  (.seq (.seq (.region [
    ⟨some 15, .faddr (.tmp 2) 1, none⟩,
    ⟨some 16, .load (.tmp 15) 1 false .plain, none⟩,
    ⟨some 17, .un .not (.tmp 16), none⟩,
    ⟨some 18, .mov (.tmp 17), none⟩,
    ⟨some 19, .faddr (.tmp 3) 1, some (18, false)⟩,
    ⟨some 20, .load (.tmp 19) 1 false .plain, some (18, false)⟩,
    ⟨some 21, .faddr (.tmp 2) 0, some (18, false)⟩,
    ⟨some 22, .load (.tmp 21) 1 false .plain, some (18, false)⟩,
    ⟨some 23, .bin .neq (.tmp 20) (.tmp 22), some (18, false)⟩,
    ⟨some 24, .pick (.tmp 18) (.const (.bool true)) (.tmp 23), none⟩] [2, 3, 4, 24])
  (.cond (.tmp 24)
    (.seq (.region [
      ⟨some 25, .load (.tmp 2) 9 true .plain, none⟩,
      ⟨none, .store (.tmp 4) (.tmp 25) 9, none⟩] [4])
    .ret)
    .skip))
  (.seq (.seq (.region [
    ⟨some 26, .faddr (.tmp 3) 0, none⟩,
    ⟨some 27, .load (.tmp 26) 1 false .plain, none⟩] [2, 3, 4, 27])
  (.block 0
    (.seq (.region [
      ⟨some 29, .bin .eql (.tmp 27) (.const (.int .i64 1)), none⟩,
      ⟨some 28, .mov (.tmp 29), none⟩] [2, 3, 4, 27, 28])
    (.cond (.tmp 28)
      (.seq (.region [
        ⟨some 30, .faddr (.tmp 2) 3, none⟩,
        ⟨some 31, .load (.tmp 30) 1 false .plain, none⟩,
        ⟨some 32, .un .not (.tmp 31), none⟩,
        ⟨some 33, .mov (.tmp 32), none⟩,
        ⟨some 34, .faddr (.tmp 3) 2, some (33, false)⟩,
        ⟨some 35, .load (.tmp 34) 1 false .plain, some (33, false)⟩,
        ⟨some 36, .faddr (.tmp 2) 4, some (33, false)⟩,
        ⟨some 37, .load (.tmp 36) 1 false .plain, some (33, false)⟩,
        ⟨some 38, .bin .gtr (.tmp 35) (.tmp 37), some (33, false)⟩,
        ⟨some 39, .pick (.tmp 33) (.const (.bool true)) (.tmp 38), none⟩,
        ⟨some 40, .mov (.tmp 39), none⟩,
        ⟨some 41, .faddr (.tmp 3) 3, some (40, true)⟩,
        ⟨some 42, .load (.tmp 41) 1 false .plain, some (40, true)⟩,
        ⟨some 43, .call 6 [false] [.tmp 42], some (40, true)⟩,
        ⟨some 44, .pick (.tmp 40) (.tmp 43) (.const (.bool false)), none⟩,
        ⟨some 45, .mov (.tmp 44), none⟩,
        ⟨some 46, .faddr (.tmp 3) 2, some (45, true)⟩,
        ⟨some 47, .load (.tmp 46) 1 false .plain, some (45, true)⟩,
        ⟨some 48, .call 85 [false, false, false] [.tmp 47, .const (.int .i64 1), .const (.int .i64 1000000)], some (45, true)⟩,
        ⟨some 49, .pick (.tmp 45) (.tmp 48) (.const (.bool false)), none⟩] [2, 3, 4, 49])
      (.cond (.tmp 49)
        (.loud [
          ⟨some 50, .faddr (.tmp 3) 2, none⟩,
          ⟨some 51, .load (.tmp 50) 1 false .plain, none⟩,
          ⟨some 52, .faddr (.tmp 3) 3, none⟩,
          ⟨some 53, .load (.tmp 52) 1 false .plain, none⟩,
          ⟨some 54, .append 7 72 true (.const (.sl .own 7 [])) (.tmp 53), none⟩,
          ⟨some 55, .faddr (.tmp 2) 3, none⟩,
          ⟨none, .store (.tmp 55) (.const (.bool true)) 1, none⟩,
          ⟨some 56, .faddr (.tmp 2) 4, none⟩,
          ⟨none, .store (.tmp 56) (.tmp 51) 1, none⟩,
          ⟨some 57, .faddr (.tmp 2) 5, none⟩,
          ⟨none, .store (.tmp 57) (.tmp 54) 1, none⟩] [0, 1, 0, 4, 12, 0, 60, 127, 255, 511, 1023] [2, 4])
        .skip))
      (.seq (.region [
        ⟨some 59, .bin .eql (.tmp 27) (.const (.int .i64 3)), none⟩,
        ⟨some 58, .mov (.tmp 59), none⟩] [2, 3, 4, 27, 58])
      (.cond (.tmp 58)
        (.seq (.region [
          ⟨some 60, .faddr (.tmp 2) 7, none⟩,
          ⟨some 61, .load (.tmp 60) 1 false .plain, none⟩,
          ⟨some 62, .faddr (.tmp 3) 4, none⟩,
          ⟨some 63, .load (.tmp 62) 1 false .plain, none⟩,
          ⟨some 64, .call 113 [false, false] [.tmp 61, .tmp 63], none⟩,
          ⟨some 5, .mov (.tmp 64), none⟩] [2, 3, 4, 5])
        (.seq (.seq (.quiet [
          ⟨some 65, .mov (.tmp 5), none⟩,
          ⟨some 66, .bin .lss (.tmp 65) (.const (.int .i64 0)), none⟩,
          ⟨some 67, .mov (.tmp 66), none⟩,
          ⟨some 68, .faddr (.tmp 2) 7, some (67, false)⟩,
          ⟨some 69, .load (.tmp 68) 1 false .plain, some (67, false)⟩,
          ⟨some 70, .mov (.tmp 5), some (67, false)⟩,
          ⟨some 71, .iaddr 4 (.tmp 69) (.tmp 70), some (67, false)⟩,
          ⟨some 72, .faddr (.tmp 71) 1, some (67, false)⟩,
          ⟨some 73, .load (.tmp 72) 1 false .plain, some (67, false)⟩,
          ⟨some 74, .faddr (.tmp 3) 5, some (67, false)⟩,
          ⟨some 75, .load (.tmp 74) 1 false .plain, some (67, false)⟩,
          ⟨some 76, .bin .neq (.tmp 73) (.tmp 75), some (67, false)⟩,
          ⟨some 77, .pick (.tmp 67) (.const (.bool true)) (.tmp 76), none⟩,
          ⟨some 78, .mov (.tmp 77), none⟩,
          ⟨some 79, .faddr (.tmp 3) 6, some (78, false)⟩,
          ⟨some 80, .load (.tmp 79) 1 false .plain, some (78, false)⟩,
          ⟨some 81, .faddr (.tmp 2) 7, some (78, false)⟩,
          ⟨some 82, .load (.tmp 81) 1 false .plain, some (78, false)⟩,
          ⟨some 83, .mov (.tmp 5), some (78, false)⟩,
          ⟨some 84, .iaddr 4 (.tmp 82) (.tmp 83), some (78, false)⟩,
          ⟨some 85, .faddr (.tmp 84) 2, some (78, false)⟩,
          ⟨some 86, .load (.tmp 85) 1 false .plain, some (78, false)⟩,
          ⟨some 87, .bin .lss (.tmp 80) (.tmp 86), some (78, false)⟩,
          ⟨some 88, .pick (.tmp 78) (.const (.bool true)) (.tmp 87), none⟩,
          ⟨some 89, .mov (.tmp 88), none⟩,
          ⟨some 90, .faddr (.tmp 3) 6, some (89, false)⟩,
          ⟨some 91, .load (.tmp 90) 1 false .plain, some (89, false)⟩,
          ⟨some 92, .faddr (.tmp 2) 7, some (89, false)⟩,
          ⟨some 93, .load (.tmp 92) 1 false .plain, some (89, false)⟩,
          ⟨some 94, .mov (.tmp 5), some (89, false)⟩,
          ⟨some 95, .iaddr 4 (.tmp 93) (.tmp 94), some (89, false)⟩,
          ⟨some 96, .faddr (.tmp 95) 3, some (89, false)⟩,
          ⟨some 97, .load (.tmp 96) 1 false .plain, some (89, false)⟩,
          ⟨some 98, .bin .gtr (.tmp 91) (.tmp 97), some (89, false)⟩,
          ⟨some 99, .pick (.tmp 89) (.const (.bool true)) (.tmp 98), none⟩] [2, 3, 4, 99])
        (.cond (.tmp 99)
          (.exit 0)
          .skip))
        (.seq (.region [
          ⟨some 100, .faddr (.tmp 2) 6, none⟩,
          ⟨some 101, .load (.tmp 100) 1 false .plain, none⟩,
          ⟨some 102, .len false (.tmp 101), none⟩,
          ⟨some 103, .mov (.const (.int .i64 0)), none⟩] [2, 3, 4, 101, 102, 103])
        (.block 1
          (.loop [2, 3, 4, 101, 102, 103] c61b0)))))
        (.seq (.region [
          ⟨some 140, .bin .eql (.tmp 27) (.const (.int .i64 5)), none⟩,
          ⟨some 139, .mov (.tmp 140), none⟩] [2, 3, 4, 139])
        (.cond (.tmp 139)
          (.seq (.region [
            ⟨some 141, .faddr (.tmp 2) 8, none⟩,
            ⟨some 142, .load (.tmp 141) 1 false .plain, none⟩,
            ⟨some 143, .faddr (.tmp 3) 4, none⟩,
            ⟨some 144, .load (.tmp 143) 1 false .plain, none⟩,
            ⟨some 145, .call 113 [false, false] [.tmp 142, .tmp 144], none⟩,
            ⟨some 8, .mov (.tmp 145), none⟩] [2, 3, 4, 8])
          (.seq (.quiet [
            ⟨some 146, .mov (.tmp 8), none⟩,
            ⟨some 147, .bin .geq (.tmp 146) (.const (.int .i64 0)), none⟩,
            ⟨some 148, .mov (.tmp 147), none⟩,
            ⟨some 149, .faddr (.tmp 2) 8, some (148, true)⟩,
            ⟨some 150, .load (.tmp 149) 1 false .plain, some (148, true)⟩,
            ⟨some 151, .mov (.tmp 8), some (148, true)⟩,
            ⟨some 152, .iaddr 4 (.tmp 150) (.tmp 151), some (148, true)⟩,
            ⟨some 153, .faddr (.tmp 152) 3, some (148, true)⟩,
            ⟨some 154, .load (.tmp 153) 1 false .plain, some (148, true)⟩,
            ⟨some 155, .faddr (.tmp 3) 6, some (148, true)⟩,
            ⟨some 156, .load (.tmp 155) 1 false .plain, some (148, true)⟩,
            ⟨some 157, .bin .eql (.tmp 154) (.tmp 156), some (148, true)⟩,
            ⟨some 158, .pick (.tmp 148) (.tmp 157) (.const (.bool false)), none⟩] [2, 4, 8, 158])
          (.cond (.tmp 158)
            (.region [
              ⟨some 159, .faddr (.tmp 2) 8, none⟩,
              ⟨some 160, .load (.tmp 159) 1 false .plain, none⟩,
              ⟨some 161, .mov (.tmp 8), none⟩,
              ⟨some 162, .call 137 [false, false] [.tmp 160, .tmp 161], none⟩,
              ⟨some 163, .faddr (.tmp 2) 8, none⟩,
              ⟨none, .store (.tmp 163) (.tmp 162) 1, none⟩] [2, 4])
            .skip)))
          .skip))))))))
  (.seq (.region [
    ⟨some 164, .load (.tmp 2) 9 true .plain, none⟩,
    ⟨none, .store (.tmp 4) (.tmp 164) 9, none⟩] [4])
  .ret))))))⟩
-- laws.markMateParcel
def c62 : CFn := ⟨10, [.tmp 4],
  (.seq (.region [
    ⟨some 2, .box (.tmp 0), none⟩,
    ⟨some 4, .mov (.const (.int .i64 0)), none⟩] [1, 2])
  (.seq (.region [
    ⟨some 5, .faddr (.tmp 2) 3, none⟩,
    ⟨some 6, .load (.tmp 5) 1 false .plain, none⟩,
    ⟨some 7, .mov (.tmp 1), none⟩,
    ⟨some 8, .call 71 [true, false] [.tmp 6, .tmp 7], none⟩,
    ⟨some 1, .mov (.tmp 8), none⟩] [1])
  (.seq (.region [
    ⟨some 9, .mov (.tmp 1), none⟩,
    ⟨some 4, .mov (.tmp 9), none⟩] [4])
  .ret)))⟩
-- laws.eqMateParcel
def c63 : CFn := ⟨41, [.tmp 4],
  (.seq (.region [
    ⟨some 2, .box (.tmp 0), none⟩,
    ⟨some 3, .box (.tmp 1), none⟩,
    ⟨some 4, .mov (.const (.bool false)), none⟩] [2, 3])
  (.seq (.seq (.region [
    ⟨some 5, .faddr (.tmp 2) 0, none⟩,
    ⟨some 6, .load (.tmp 5) 1 false .plain, none⟩,
    ⟨some 7, .faddr (.tmp 3) 0, none⟩,
    ⟨some 8, .load (.tmp 7) 1 false .plain, none⟩,
    ⟨some 9, .bin .neq (.tmp 6) (.tmp 8), none⟩] [2, 3, 9])
  (.cond (.tmp 9)
    (.seq (.region [
      ⟨some 4, .mov (.const (.bool false)), none⟩] [4])
    .ret)
    .skip))
  (.seq (.seq (.region [
    ⟨some 10, .faddr (.tmp 2) 1, none⟩,
    ⟨some 11, .load (.tmp 10) 1 false .plain, none⟩,
    ⟨some 12, .faddr (.tmp 3) 1, none⟩,
    ⟨some 13, .load (.tmp 12) 1 false .plain, none⟩,
    ⟨some 14, .bin .neq (.tmp 11) (.tmp 13), none⟩] [2, 3, 14])
  (.cond (.tmp 14)
    (.seq (.region [
      ⟨some 4, .mov (.const (.bool false)), none⟩] [4])
    .ret)
    .skip))
  (.seq (.seq (.region [
    ⟨some 15, .faddr (.tmp 2) 2, none⟩,
    ⟨some 16, .load (.tmp 15) 1 false .plain, none⟩,
    ⟨some 17, .faddr (.tmp 3) 2, none⟩,
    ⟨some 18, .load (.tmp 17) 1 false .plain, none⟩,
    ⟨some 19, .bin .neq (.tmp 16) (.tmp 18), none⟩] [2, 3, 19])
  (.cond (.tmp 19)
    (.seq (.region [
      ⟨some 4, .mov (.const (.bool false)), none⟩] [4])
    .ret)
    .skip))
  (.seq (.seq (.region [
    ⟨some 20, .faddr (.tmp 2) 3, none⟩,
    ⟨some 21, .load (.tmp 20) 1 false .plain, none⟩,
    ⟨some 22, .faddr (.tmp 3) 3, none⟩,
    ⟨some 23, .load (.tmp 22) 1 false .plain, none⟩,
    ⟨some 24, .call 5 [false, false] [.tmp 21, .tmp 23], none⟩,
    ⟨some 25, .un .not (.tmp 24), none⟩] [2, 3, 25])
  (.cond (.tmp 25)
    (.seq (.region [
      ⟨some 4, .mov (.const (.bool false)), none⟩] [4])
    .ret)
    .skip))
  (.seq (.seq (.region [
    ⟨some 26, .faddr (.tmp 2) 4, none⟩,
    ⟨some 27, .load (.tmp 26) 1 false .plain, none⟩,
    ⟨some 28, .faddr (.tmp 3) 4, none⟩,
    ⟨some 29, .load (.tmp 28) 1 false .plain, none⟩,
    ⟨some 30, .bin .neq (.tmp 27) (.tmp 29), none⟩] [2, 3, 30])
  (.cond (.tmp 30)
    (.seq (.region [
      ⟨some 4, .mov (.const (.bool false)), none⟩] [4])
    .ret)
    .skip))
  (.seq (.seq (.region [
    ⟨some 31, .faddr (.tmp 2) 5, none⟩,
    ⟨some 32, .load (.tmp 31) 1 false .plain, none⟩,
    ⟨some 33, .faddr (.tmp 3) 5, none⟩,
    ⟨some 34, .load (.tmp 33) 1 false .plain, none⟩,
    ⟨some 35, .bin .neq (.tmp 32) (.tmp 34), none⟩] [2, 3, 35])
  (.cond (.tmp 35)
    (.seq (.region [
      ⟨some 4, .mov (.const (.bool false)), none⟩] [4])
    .ret)
    .skip))
  (.seq (.seq (.region [
    ⟨some 36, .faddr (.tmp 2) 6, none⟩,
    ⟨some 37, .load (.tmp 36) 1 false .plain, none⟩,
    ⟨some 38, .faddr (.tmp 3) 6, none⟩,
    ⟨some 39, .load (.tmp 38) 1 false .plain, none⟩,
    ⟨some 40, .bin .neq (.tmp 37) (.tmp 39), none⟩] [40])
  (.cond (.tmp 40)
    (.seq (.region [
      ⟨some 4, .mov (.const (.bool false)), none⟩] [4])
    .ret)
    .skip))
  (.seq (.region [
    ⟨some 4, .mov (.const (.bool true)), none⟩] [4])
  .ret)))))))))⟩
-- spec.MateTake
def c64b0 : CCode := (.seq (.seq (.region [
    ⟨some 99, .mov (.tmp 7), none⟩,
    ⟨some 100, .faddr (.tmp 5) 6, none⟩,
    ⟨some 101, .load (.tmp 100) 1 false .plain, none⟩,
    ⟨some 102, .len false (.tmp 101), none⟩,
    ⟨some 103, .bin .lss (.tmp 99) (.tmp 102), none⟩] [3, 4, 5, 7, 103])
  (.cond (.tmp 103)
    .skip
    (.exit 1)))
  (.seq (.block 2
    (.seq (.region [
      ⟨some 106, .faddr (.tmp 5) 6, none⟩,
      ⟨some 107, .load (.tmp 106) 1 false .plain, none⟩,
      ⟨some 108, .mov (.tmp 7), none⟩,
      ⟨some 109, .iaddr 11 (.tmp 107) (.tmp 108), none⟩,
      ⟨some 110, .load (.tmp 109) 11 true .plain, none⟩,
      ⟨some 8, .alloc [.str ⟨#[]⟩, .int .i64 0, .str ⟨#[]⟩, .int .i64 0, .int .i64 0, .int .i64 0, .int .i64 0, .int .i64 0, .int .i64 0, .int .i64 0, .int .i64 0], none⟩,
      ⟨none, .store (.tmp 8) (.tmp 110) 11, none⟩] [3, 4, 5, 7, 8])
    (.seq (.region [
      ⟨some 111, .faddr (.tmp 8) 0, none⟩,
      ⟨some 112, .faddr (.tmp 111) 2, none⟩,
      ⟨some 113, .load (.tmp 112) 1 false .plain, none⟩,
      ⟨some 114, .faddr (.tmp 3) 4, none⟩,
      ⟨some 115, .load (.tmp 114) 1 false .plain, none⟩,
      ⟨some 116, .bin .eql (.tmp 113) (.tmp 115), none⟩,
      ⟨some 117, .mov (.tmp 116), none⟩,
      ⟨some 118, .faddr (.tmp 8) 0, some (117, true)⟩,
      ⟨some 119, .faddr (.tmp 118) 0, some (117, true)⟩,
      ⟨some 120, .load (.tmp 119) 1 false .plain, some (117, true)⟩,
      ⟨some 121, .faddr (.tmp 3) 5, some (117, true)⟩,
      ⟨some 122, .load (.tmp 121) 1 false .plain, some (117, true)⟩,
      ⟨some 123, .bin .eql (.tmp 120) (.tmp 122), some (117, true)⟩,
      ⟨some 124, .pick (.tmp 117) (.tmp 123) (.const (.bool false)), none⟩,
      ⟨some 125, .mov (.tmp 124), none⟩,
      ⟨some 126, .faddr (.tmp 8) 10, some (125, true)⟩,
      ⟨some 127, .load (.tmp 126) 1 false .plain, some (125, true)⟩,
      ⟨some 128, .faddr (.tmp 3) 6, some (125, true)⟩,
      ⟨some 129, .load (.tmp 128) 1 false .plain, some (125, true)⟩,
      ⟨some 130, .bin .add (.tmp 129) (.const (.int .i64 16)), some (125, true)⟩,
      ⟨some 131, .bin .lss (.tmp 127) (.tmp 130), some (125, true)⟩,
      ⟨some 132, .pick (.tmp 125) (.tmp 131) (.const (.bool false)), none⟩] [3, 4, 5, 7, 132])
    (.cond (.tmp 132)
      (.region [
        ⟨some 133, .faddr (.tmp 5) 6, none⟩,
        ⟨some 134, .load (.tmp 133) 1 false .plain, none⟩,
        ⟨some 135, .mov (.tmp 7), none⟩,
        ⟨some 136, .faddr (.tmp 3) 6, none⟩,
        ⟨some 137, .load (.tmp 136) 1 false .plain, none⟩,
        ⟨some 138, .bin .add (.tmp 137) (.const (.int .i64 16)), none⟩,
        ⟨some 139, .iaddr 11 (.tmp 134) (.tmp 135), none⟩,
        ⟨some 140, .faddr (.tmp 139) 10, none⟩,
        ⟨none, .store (.tmp 140) (.tmp 138) 1, none⟩] [3, 4, 5, 7])
      .skip))))
  (.region [
    ⟨some 104, .mov (.tmp 7), none⟩,
    ⟨some 105, .bin .add (.tmp 104) (.const (.int .i64 1)), none⟩,
    ⟨some 7, .mov (.tmp 105), none⟩] [3, 4, 5, 7])))
def c64 : CFn := ⟨168, [.cell 4 9 true],
  (.seq (.region [
    ⟨some 2, .box (.tmp 0), none⟩,
    ⟨some 3, .box (.tmp 1), none⟩,
    ⟨some 4, .alloc [.str ⟨#[]⟩, .bool false, .int .i64 0, .bool false, .int .i64 0, .sl .own 7 [], .sl .own 11 [], .sl .own 4 [], .sl .own 4 []], none⟩] [2, 3, 4])
  (.seq (.seq (.region [
    ⟨some 10, .load (.tmp 2) 9 true .plain, none⟩,
    ⟨some 11, .call 29 [false] [.tmp 10], none⟩,
    ⟨some 12, .un .not (.tmp 11), none⟩] [2, 3, 4, 12])
  (.cond (.tmp 12)
    (.seq (.region [
      ⟨some 13, .build [.str ⟨#[]⟩, .bool false, .int .i64 0, .bool false, .int .i64 0, .sl .own 7 [], .sl .own 11 [], .sl .own 4 [], .sl .own 4 []] [], none⟩,
      ⟨none, .store (.tmp 4) (.tmp 13) 9, none⟩] [4])
    .ret)
    .skip))
  (.seq (.region [
    ⟨some 14, .load (.tmp 2) 9 true .plain, none⟩,
    ⟨some 15, .call 120 [false] [.tmp 14], none⟩,
    ⟨some 5, .alloc [.str ⟨#[]⟩, .bool false, .int .i64 0, .bool false, .int .i64 0, .sl .own 7 [], .sl .own 11 [], .sl .own 4 [], .sl .own 4 []], none⟩,
    ⟨none, .store (.tmp 5) (.tmp 15) 9, none⟩] [2, 3, 4, 5])
  (.seq (.seq (.region [
    ⟨some 16, .faddr (.tmp 2) 1, none⟩,
    ⟨some 17, .load (.tmp 16) 1 false .plain, none⟩,
    ⟨some 18, .un .not (.tmp 17), none⟩,
    ⟨some 19, .mov (.tmp 18), none⟩,
    ⟨some 20, .faddr (.tmp 3) 1, some (19, false)⟩,
    ⟨some 21, .load (.tmp 20) 1 false .plain, some (19, false)⟩,
    ⟨some 22, .faddr (.tmp 2) 0, some (19, false)⟩,
    ⟨some 23, .load (.tmp 22) 1 false .plain, some (19, false)⟩,
    ⟨some 24, .bin .neq (.tmp 21) (.tmp 23), some (19, false)⟩,
    ⟨some 25, .pick (.tmp 19) (.const (.bool true)) (.tmp 24), none⟩] [2, 3, 4, 5, 25])
  (.cond (.tmp 25)
    (.seq (.region [
      ⟨some 26, .load (.tmp 5) 9 true .plain, none⟩,
      ⟨none, .store (.tmp 4) (.tmp 26) 9, none⟩] [4])
    .ret)
    .skip))
  (.seq (.seq (.region [
    ⟨some 27, .faddr (.tmp 3) 0, none⟩,
    ⟨some 28, .load (.tmp 27) 1 false .plain, none⟩] [2, 3, 4, 5, 28])
  (.block 0
    (.seq (.region [
      ⟨some 30, .bin .eql (.tmp 28) (.const (.int .i64 1)), none⟩,
      ⟨some 29, .mov (.tmp 30), none⟩] [2, 3, 4, 5, 28, 29])
    (.cond (.tmp 29)
      (.seq (.region [
        ⟨some 31, .faddr (.tmp 3) 3, none⟩,
        ⟨some 32, .load (.tmp 31) 1 false .plain, none⟩,
        ⟨some 33, .call 7 [false] [.tmp 32], none⟩,
        ⟨some 34, .mov (.tmp 33), none⟩,
        ⟨some 35, .faddr (.tmp 3) 2, some (34, true)⟩,
        ⟨some 36, .load (.tmp 35) 1 false .plain, some (34, true)⟩,
        ⟨some 37, .call 102 [false, false, false] [.tmp 36, .const (.int .i64 1), .const (.int .i64 1000000)], some (34, true)⟩,
        ⟨some 38, .pick (.tmp 34) (.tmp 37) (.const (.bool false)), none⟩,
        ⟨some 39, .mov (.tmp 38), none⟩,
        ⟨some 40, .faddr (.tmp 2) 3, some (39, true)⟩,
        ⟨some 41, .load (.tmp 40) 1 false .plain, some (39, true)⟩,
        ⟨some 42, .un .not (.tmp 41), some (39, true)⟩,
        ⟨some 43, .mov (.tmp 42), some (39, true)⟩,
        ⟨some 44, .faddr (.tmp 3) 2, some (43, false)⟩,
        ⟨some 45, .load (.tmp 44) 1 false .plain, some (43, false)⟩,
        ⟨some 46, .faddr (.tmp 2) 4, some (43, false)⟩,
        ⟨some 47, .load (.tmp 46) 1 false .plain, some (43, false)⟩,
        ⟨some 48, .bin .gtr (.tmp 45) (.tmp 47), some (43, false)⟩,
        ⟨some 49, .pick (.tmp 43) (.const (.bool true)) (.tmp 48), some (39, true)⟩,
        ⟨some 50, .pick (.tmp 39) (.tmp 49) (.const (.bool false)), none⟩] [3, 4, 5, 50])
      (.cond (.tmp 50)
        (.seq (.region [
          ⟨some 51, .faddr (.tmp 5) 3, none⟩,
          ⟨none, .store (.tmp 51) (.const (.bool true)) 1, none⟩] [3, 4, 5])
        (.seq (.region [
          ⟨some 52, .faddr (.tmp 3) 2, none⟩,
          ⟨some 53, .load (.tmp 52) 1 false .plain, none⟩,
          ⟨some 54, .faddr (.tmp 5) 4, none⟩,
          ⟨none, .store (.tmp 54) (.tmp 53) 1, none⟩] [3, 4, 5])
        (.region [
          ⟨some 55, .bslice 7 [.str ⟨#[]⟩, .int .i64 0, .str ⟨#[]⟩, .int .i64 0, .int .i64 0, .int .i64 0, .int .i64 0] 0 [], none⟩,
          ⟨some 56, .faddr (.tmp 3) 3, none⟩,
          ⟨some 57, .load (.tmp 56) 1 false .plain, none⟩,
          ⟨some 58, .append 7 72 true (.tmp 55) (.tmp 57), none⟩,
          ⟨some 59, .faddr (.tmp 5) 5, none⟩,
          ⟨none, .store (.tmp 59) (.tmp 58) 1, none⟩] [4, 5])))
        .skip))
      (.seq (.region [
        ⟨some 61, .bin .eql (.tmp 28) (.const (.int .i64 3)), none⟩,
        ⟨some 60, .mov (.tmp 61), none⟩] [2, 3, 4, 5, 28, 60])
      (.cond (.tmp 60)
        (.seq (.region [
          ⟨some 62, .faddr (.tmp 2) 7, none⟩,
          ⟨some 63, .load (.tmp 62) 1 false .plain, none⟩,
          ⟨some 64, .faddr (.tmp 3) 4, none⟩,
          ⟨some 65, .load (.tmp 64) 1 false .plain, none⟩,
          ⟨some 66, .call 110 [false, false] [.tmp 63, .tmp 65], none⟩,
          ⟨some 6, .mov (.tmp 66), none⟩] [2, 3, 4, 5, 6])
        (.seq (.seq (.quiet [
          ⟨some 67, .mov (.tmp 6), none⟩,
          ⟨some 68, .bin .lss (.tmp 67) (.const (.int .i64 0)), none⟩,
          ⟨some 69, .mov (.tmp 68), none⟩,
          ⟨some 70, .faddr (.tmp 2) 7, some (69, false)⟩,
          ⟨some 71, .load (.tmp 70) 1 false .plain, some (69, false)⟩,
          ⟨some 72, .mov (.tmp 6), some (69, false)⟩,
          ⟨some 73, .iaddr 4 (.tmp 71) (.tmp 72), some (69, false)⟩,
          ⟨some 74, .faddr (.tmp 73) 1, some (69, false)⟩,
          ⟨some 75, .load (.tmp 74) 1 false .plain, some (69, false)⟩,
          ⟨some 76, .faddr (.tmp 3) 5, some (69, false)⟩,
          ⟨some 77, .load (.tmp 76) 1 false .plain, some (69, false)⟩,
          ⟨some 78, .bin .neq (.tmp 75) (.tmp 77), some (69, false)⟩,
          ⟨some 79, .pick (.tmp 69) (.const (.bool true)) (.tmp 78), none⟩,
          ⟨some 80, .mov (.tmp 79), none⟩,
          ⟨some 81, .faddr (.tmp 3) 6, some (80, false)⟩,
          ⟨some 82, .load (.tmp 81) 1 false .plain, some (80, false)⟩,
          ⟨some 83, .faddr (.tmp 2) 7, some (80, false)⟩,
          ⟨some 84, .load (.tmp 83) 1 false .plain, some (80, false)⟩,
          ⟨some 85, .mov (.tmp 6), some (80, false)⟩,
          ⟨some 86, .iaddr 4 (.tmp 84) (.tmp 85), some (80, false)⟩,
          ⟨some 87, .faddr (.tmp 86) 2, some (80, false)⟩,
          ⟨some 88, .load (.tmp 87) 1 false .plain, some (80, false)⟩,
          ⟨some 89, .faddr (.tmp 2) 7, some (80, false)⟩,
          ⟨some 90, .load (.tmp 89) 1 false .plain, some (80, false)⟩,
          ⟨some 91, .mov (.tmp 6), some (80, false)⟩,
          ⟨some 92, .iaddr 4 (.tmp 90) (.tmp 91), some (80, false)⟩,
          ⟨some 93, .faddr (.tmp 92) 3, some (80, false)⟩,
          ⟨some 94, .load (.tmp 93) 1 false .plain, some (80, false)⟩,
          ⟨some 95, .call 102 [false, false, false] [.tmp 82, .tmp 88, .tmp 94], some (80, false)⟩,
          ⟨some 96, .un .not (.tmp 95), some (80, false)⟩,
          ⟨some 97, .pick (.tmp 80) (.const (.bool true)) (.tmp 96), none⟩] [3, 4, 5, 97])
        (.cond (.tmp 97)
          (.seq (.region [
            ⟨some 98, .load (.tmp 5) 9 true .plain, none⟩,
            ⟨none, .store (.tmp 4) (.tmp 98) 9, none⟩] [4])
          .ret)
          .skip))
        (.seq (.region [
          ⟨some 7, .mov (.const (.int .i64 0)), none⟩] [3, 4, 5, 7])
        (.block 1
          (.loop [3, 4, 5, 7] c64b0)))))
        (.seq (.region [
          ⟨some 142, .bin .eql (.tmp 28) (.const (.int .i64 5)), none⟩,
          ⟨some 141, .mov (.tmp 142), none⟩] [2, 3, 4, 5, 141])
        (.cond (.tmp 141)
          (.seq (.region [
            ⟨some 143, .faddr (.tmp 2) 8, none⟩,
            ⟨some 144, .load (.tmp 143) 1 false .plain, none⟩,
            ⟨some 145, .faddr (.tmp 3) 4, none⟩,
            ⟨some 146, .load (.tmp 145) 1 false .plain, none⟩,
            ⟨some 147, .call 110 [false, false] [.tmp 144, .tmp 146], none⟩,
            ⟨some 9, .mov (.tmp 147), none⟩] [2, 3, 4, 5, 9])
          (.seq (.quiet [
            ⟨some 148, .mov (.tmp 9), none⟩,
            ⟨some 149, .bin .geq (.tmp 148) (.const (.int .i64 0)), none⟩,
            ⟨some 150, .mov (.tmp 149), none⟩,
            ⟨some 151, .faddr (.tmp 2) 8, some (150, true)⟩,
            ⟨some 152, .load (.tmp 151) 1 false .plain, some (150, true)⟩,
            ⟨some 153, .mov (.tmp 9), some (150, true)⟩,
            ⟨some 154, .iaddr 4 (.tmp 152) (.tmp 153), some (150, true)⟩,
            ⟨some 155, .faddr (.tmp 154) 3, some (150, true)⟩,
            ⟨some 156, .load (.tmp 155) 1 false .plain, some (150, true)⟩,
            ⟨some 157, .faddr (.tmp 3) 6, some (150, true)⟩,
            ⟨some 158, .load (.tmp 157) 1 false .plain, some (150, true)⟩,
            ⟨some 159, .bin .eql (.tmp 156) (.tmp 158), some (150, true)⟩,
            ⟨some 160, .pick (.tmp 150) (.tmp 159) (.const (.bool false)), none⟩] [2, 3, 4, 5, 160])
          (.cond (.tmp 160)
            (.region [
              ⟨some 161, .faddr (.tmp 2) 8, none⟩,
              ⟨some 162, .load (.tmp 161) 1 false .plain, none⟩,
              ⟨some 163, .faddr (.tmp 3) 4, none⟩,
              ⟨some 164, .load (.tmp 163) 1 false .plain, none⟩,
              ⟨some 165, .call 136 [false, false] [.tmp 162, .tmp 164], none⟩,
              ⟨some 166, .faddr (.tmp 5) 8, none⟩,
              ⟨none, .store (.tmp 166) (.tmp 165) 1, none⟩] [4, 5])
            .skip)))
          .skip))))))))
  (.seq (.region [
    ⟨some 167, .load (.tmp 5) 9 true .plain, none⟩,
    ⟨none, .store (.tmp 4) (.tmp 167) 9, none⟩] [4])
  .ret))))))⟩
-- laws.szMateParcel
def c65 : CFn := ⟨33, [.tmp 4],
  (.seq (.region [
    ⟨some 2, .box (.tmp 0), none⟩,
    ⟨some 4, .mov (.const (.int .i64 0)), none⟩] [1, 2])
  (.seq (.region [
    ⟨some 5, .mov (.tmp 1), none⟩,
    ⟨some 6, .faddr (.tmp 2) 1, none⟩,
    ⟨some 7, .load (.tmp 6) 1 false .plain, none⟩,
    ⟨some 8, .len true (.tmp 7), none⟩,
    ⟨some 9, .bin .sub (.tmp 5) (.tmp 8), none⟩,
    ⟨some 1, .mov (.tmp 9), none⟩] [1, 2])
  (.seq (.seq (.region [
    ⟨some 10, .mov (.tmp 1), none⟩,
    ⟨some 11, .bin .lss (.tmp 10) (.const (.int .i64 0)), none⟩] [1, 2, 11])
  (.cond (.tmp 11)
    (.seq (.region [
      ⟨some 4, .mov (.const (.int .i64 (-1))), none⟩] [4])
    .ret)
    .skip))
  (.seq (.region [
    ⟨some 12, .faddr (.tmp 2) 3, none⟩,
    ⟨some 13, .load (.tmp 12) 1 false .plain, none⟩,
    ⟨some 14, .mov (.tmp 1), none⟩,
    ⟨some 15, .call 8 [false, false] [.tmp 13, .tmp 14], none⟩,
    ⟨some 1, .mov (.tmp 15), none⟩] [1, 2])
  (.seq (.seq (.region [
    ⟨some 16, .mov (.tmp 1), none⟩,
    ⟨some 17, .bin .lss (.tmp 16) (.const (.int .i64 0)), none⟩] [1, 2, 17])
  (.cond (.tmp 17)
    (.seq (.region [
      ⟨some 4, .mov (.const (.int .i64 (-1))), none⟩] [4])
    .ret)
    .skip))
  (.seq (.region [
    ⟨some 18, .mov (.tmp 1), none⟩,
    ⟨some 19, .faddr (.tmp 2) 4, none⟩,
    ⟨some 20, .load (.tmp 19) 1 false .plain, none⟩,
    ⟨some 21, .len true (.tmp 20), none⟩,
    ⟨some 22, .bin .sub (.tmp 18) (.tmp 21), none⟩,
    ⟨some 1, .mov (.tmp 22), none⟩] [1, 2])
  (.seq (.seq (.region [
    ⟨some 23, .mov (.tmp 1), none⟩,
    ⟨some 24, .bin .lss (.tmp 23) (.const (.int .i64 0)), none⟩] [1, 2, 24])
  (.cond (.tmp 24)
    (.seq (.region [
      ⟨some 4, .mov (.const (.int .i64 (-1))), none⟩] [4])
    .ret)
    .skip))
  (.seq (.region [
    ⟨some 25, .mov (.tmp 1), none⟩,
    ⟨some 26, .faddr (.tmp 2) 5, none⟩,
    ⟨some 27, .load (.tmp 26) 1 false .plain, none⟩,
    ⟨some 28, .len true (.tmp 27), none⟩,
    ⟨some 29, .bin .sub (.tmp 25) (.tmp 28), none⟩,
    ⟨some 1, .mov (.tmp 29), none⟩] [1])
  (.seq (.seq (.region [
    ⟨some 30, .mov (.tmp 1), none⟩,
    ⟨some 31, .bin .lss (.tmp 30) (.const (.int .i64 0)), none⟩] [1, 31])
  (.cond (.tmp 31)
    (.seq (.region [
      ⟨some 4, .mov (.const (.int .i64 (-1))), none⟩] [4])
    .ret)
    .skip))
  (.seq (.region [
    ⟨some 32, .mov (.tmp 1), none⟩,
    ⟨some 4, .mov (.tmp 32), none⟩] [4])
  .ret))))))))))⟩
-- laws.markMateWantS
def c71b0 : CCode := (.seq (.seq (.region [
    ⟨some 6, .mov (.tmp 5), none⟩,
    ⟨some 7, .mov (.tmp 0), none⟩,
    ⟨some 8, .len false (.tmp 7), none⟩,
    ⟨some 9, .bin .lss (.tmp 6) (.tmp 8), none⟩] [0, 1, 5, 9])
  (.cond (.tmp 9)
    .skip
    (.exit 0)))
  (.seq (.block 1
    (.seq (.region [
      ⟨some 12, .mov (.tmp 0), none⟩,
      ⟨some 13, .mov (.tmp 5), none⟩,
      ⟨some 14, .mov (.tmp 1), none⟩,
      ⟨some 15, .call 96 [false] [.tmp 14], none⟩,
      ⟨some 16, .iaddr 7 (.tmp 12) (.tmp 13), none⟩,
      ⟨some 17, .faddr (.tmp 16) 0, none⟩,
      ⟨none, .store (.tmp 17) (.tmp 15) 1, none⟩] [0, 1, 5])
    (.seq (.region [
      ⟨some 18, .mov (.tmp 1), none⟩,
      ⟨some 19, .bin .add (.tmp 18) (.const (.int .i64 1)), none⟩,
      ⟨some 1, .mov (.tmp 19), none⟩] [0, 1, 5])
    (.seq (.region [
      ⟨some 20, .mov (.tmp 0), none⟩,
      ⟨some 21, .mov (.tmp 5), none⟩,
      ⟨some 22, .mov (.tmp 1), none⟩,
      ⟨some 23, .iaddr 7 (.tmp 20) (.tmp 21), none⟩,
      ⟨some 24, .faddr (.tmp 23) 1, none⟩,
      ⟨none, .store (.tmp 24) (.tmp 22) 1, none⟩] [0, 1, 5])
    (.seq (.region [
      ⟨some 25, .mov (.tmp 1), none⟩,
      ⟨some 26, .bin .add (.tmp 25) (.const (.int .i64 1)), none⟩,
      ⟨some 1, .mov (.tmp 26), none⟩] [0, 1, 5])
    (.seq (.region [
      ⟨some 27, .mov (.tmp 0), none⟩,
      ⟨some 28, .mov (.tmp 5), none⟩,
      ⟨some 29, .mov (.tmp 1), none⟩,
      ⟨some 30, .call 96 [false] [.tmp 29], none⟩,
      ⟨some 31, .iaddr 7 (.tmp 27) (.tmp 28), none⟩,
      ⟨some 32, .faddr (.tmp 31) 2, none⟩,
      ⟨none, .store (.tmp 32) (.tmp 30) 1, none⟩] [0, 1, 5])
    (.seq (.region [
      ⟨some 33, .mov (.tmp 1), none⟩,
      ⟨some 34, .bin .add (.tmp 33) (.const (.int .i64 1)), none⟩,
      ⟨some 1, .mov (.tmp 34), none⟩] [0, 1, 5])
    (.seq (.region [
      ⟨some 35, .mov (.tmp 0), none⟩,
      ⟨some 36, .mov (.tmp 5), none⟩,
      ⟨some 37, .mov (.tmp 1), none⟩,
      ⟨some 38, .iaddr 7 (.tmp 35) (.tmp 36), none⟩,
      ⟨some 39, .faddr (.tmp 38) 3, none⟩,
      ⟨none, .store (.tmp 39) (.tmp 37) 1, none⟩] [0, 1, 5])
    (.seq (.region [
      ⟨some 40, .mov (.tmp 1), none⟩,
      ⟨some 41, .bin .add (.tmp 40) (.const (.int .i64 1)), none⟩,
      ⟨some 1, .mov (.tmp 41), none⟩] [0, 1, 5])
    (.seq (.region [
      ⟨some 42, .mov (.tmp 0), none⟩,
      ⟨some 43, .mov (.tmp 5), none⟩,
      ⟨some 44, .mov (.tmp 1), none⟩,
      ⟨some 45, .iaddr 7 (.tmp 42) (.tmp 43), none⟩,
      ⟨some 46, .faddr (.tmp 45) 4, none⟩,
      ⟨none, .store (.tmp 46) (.tmp 44) 1, none⟩] [0, 1, 5])
    (.seq (.region [
      ⟨some 47, .mov (.tmp 1), none⟩,
      ⟨some 48, .bin .add (.tmp 47) (.const (.int .i64 1)), none⟩,
      ⟨some 1, .mov (.tmp 48), none⟩] [0, 1, 5])
    (.seq (.region [
      ⟨some 49, .mov (.tmp 0), none⟩,
      ⟨some 50, .mov (.tmp 5), none⟩,
      ⟨some 51, .mov (.tmp 1), none⟩,
      ⟨some 52, .iaddr 7 (.tmp 49) (.tmp 50), none⟩,
      ⟨some 53, .faddr (.tmp 52) 5, none⟩,
      ⟨none, .store (.tmp 53) (.tmp 51) 1, none⟩] [0, 1, 5])
    (.seq (.region [
      ⟨some 54, .mov (.tmp 1), none⟩,
      ⟨some 55, .bin .add (.tmp 54) (.const (.int .i64 1)), none⟩,
      ⟨some 1, .mov (.tmp 55), none⟩] [0, 1, 5])
    (.seq (.region [
      ⟨some 56, .mov (.tmp 0), none⟩,
      ⟨some 57, .mov (.tmp 5), none⟩,
      ⟨some 58, .mov (.tmp 1), none⟩,
      ⟨some 59, .iaddr 7 (.tmp 56) (.tmp 57), none⟩,
      ⟨some 60, .faddr (.tmp 59) 6, none⟩,
      ⟨none, .store (.tmp 60) (.tmp 58) 1, none⟩] [0, 1, 5])
    (.region [
      ⟨some 61, .mov (.tmp 1), none⟩,
      ⟨some 62, .bin .add (.tmp 61) (.const (.int .i64 1)), none⟩,
      ⟨some 1, .mov (.tmp 62), none⟩] [0, 1, 5])))))))))))))))
  (.region [
    ⟨some 10, .mov (.tmp 5), none⟩,
    ⟨some 11, .bin .add (.tmp 10) (.const (.int .i64 1)), none⟩,
    ⟨some 5, .mov (.tmp 11), none⟩] [0, 1, 5])))
def c71 : CFn := ⟨64, [.tmp 4],
  (.seq (.region [
    ⟨some 4, .mov (.const (.int .i64 0)), none⟩] [0, 1])
  (.seq (.seq (.region [
    ⟨some 5, .mov (.const (.int .i64 0)), none⟩] [0, 1, 5])
  (.block 0
    (.loop [0, 1, 5] c71b0)))
  (.seq (.region [
    ⟨some 63, .mov (.tmp 1), none⟩,
    ⟨some 4, .mov (.tmp 63), none⟩] [4])
  .ret)))⟩
-- laws.szMateWant
def c79 : CFn := ⟨20, [.tmp 4],
  (.seq (.region [
    ⟨some 2, .box (.tmp 0), none⟩,
    ⟨some 4, .mov (.const (.int .i64 0)), none⟩] [1, 2])
  (.seq (.region [
    ⟨some 5, .mov (.tmp 1), none⟩,
    ⟨some 6, .faddr (.tmp 2) 0, none⟩,
    ⟨some 7, .load (.tmp 6) 1 false .plain, none⟩,
    ⟨some 8, .len true (.tmp 7), none⟩,
    ⟨some 9, .bin .sub (.tmp 5) (.tmp 8), none⟩,
    ⟨some 1, .mov (.tmp 9), none⟩] [1, 2])
  (.seq (.seq (.region [
    ⟨some 10, .mov (.tmp 1), none⟩,
    ⟨some 11, .bin .lss (.tmp 10) (.const (.int .i64 0)), none⟩] [1, 2, 11])
  (.cond (.tmp 11)
    (.seq (.region [
      ⟨some 4, .mov (.const (.int .i64 (-1))), none⟩] [4])
    .ret)
    .skip))
  (.seq (.region [
    ⟨some 12, .mov (.tmp 1), none⟩,
    ⟨some 13, .faddr (.tmp 2) 2, none⟩,
    ⟨some 14, .load (.tmp 13) 1 false .plain, none⟩,
    ⟨some 15, .len true (.tmp 14), none⟩,
    ⟨some 16, .bin .sub (.tmp 12) (.tmp 15), none⟩,
    ⟨some 1, .mov (.tmp 16), none⟩] [1])
  (.seq (.seq (.region [
    ⟨some 17, .mov (.tmp 1), none⟩,
    ⟨some 18, .bin .lss (.tmp 17) (.const (.int .i64 0)), none⟩] [1, 18])
  (.cond (.tmp 18)
    (.seq (.region [
      ⟨some 4, .mov (.const (.int .i64 (-1))), none⟩] [4])
    .ret)
    .skip))
  (.seq (.region [
    ⟨some 19, .mov (.tmp 1), none⟩,
    ⟨some 4, .mov (.tmp 19), none⟩] [4])
  .ret))))))⟩
-- laws.toMateWant
def c80 : CFn := ⟨26, [.cell 2 7 true],
  (.seq (.region [
    ⟨some 1, .box (.tmp 0), none⟩,
    ⟨some 2, .alloc [.str ⟨#[]⟩, .int .i64 0, .str ⟨#[]⟩, .int .i64 0, .int .i64 0, .int .i64 0, .int .i64 0], none⟩] [1, 2])
  (.seq (.region [
    ⟨some 3, .alloc [.str ⟨#[]⟩, .int .i64 0, .str ⟨#[]⟩, .int .i64 0, .int .i64 0, .int .i64 0, .int .i64 0], none⟩] [1, 2, 3])
  (.seq (.region [
    ⟨some 4, .faddr (.tmp 1) 0, none⟩,
    ⟨some 5, .load (.tmp 4) 1 false .plain, none⟩,
    ⟨some 6, .faddr (.tmp 3) 0, none⟩,
    ⟨none, .store (.tmp 6) (.tmp 5) 1, none⟩] [1, 2, 3])
  (.seq (.region [
    ⟨some 7, .faddr (.tmp 1) 1, none⟩,
    ⟨some 8, .load (.tmp 7) 1 false .plain, none⟩,
    ⟨some 9, .faddr (.tmp 3) 1, none⟩,
    ⟨none, .store (.tmp 9) (.tmp 8) 1, none⟩] [1, 2, 3])
  (.seq (.region [
    ⟨some 10, .faddr (.tmp 1) 2, none⟩,
    ⟨some 11, .load (.tmp 10) 1 false .plain, none⟩,
    ⟨some 12, .faddr (.tmp 3) 2, none⟩,
    ⟨none, .store (.tmp 12) (.tmp 11) 1, none⟩] [1, 2, 3])
  (.seq (.region [
    ⟨some 13, .faddr (.tmp 1) 3, none⟩,
    ⟨some 14, .load (.tmp 13) 1 false .plain, none⟩,
    ⟨some 15, .faddr (.tmp 3) 3, none⟩,
    ⟨none, .store (.tmp 15) (.tmp 14) 1, none⟩] [1, 2, 3])
  (.seq (.region [
    ⟨some 16, .faddr (.tmp 1) 4, none⟩,
    ⟨some 17, .load (.tmp 16) 1 false .plain, none⟩,
    ⟨some 18, .faddr (.tmp 3) 4, none⟩,
    ⟨none, .store (.tmp 18) (.tmp 17) 1, none⟩] [1, 2, 3])
  (.seq (.region [
    ⟨some 19, .faddr (.tmp 1) 5, none⟩,
    ⟨some 20, .load (.tmp 19) 1 false .plain, none⟩,
    ⟨some 21, .faddr (.tmp 3) 5, none⟩,
    ⟨none, .store (.tmp 21) (.tmp 20) 1, none⟩] [1, 2, 3])
  (.seq (.region [
    ⟨some 22, .faddr (.tmp 1) 6, none⟩,
    ⟨some 23, .load (.tmp 22) 1 false .plain, none⟩,
    ⟨some 24, .faddr (.tmp 3) 6, none⟩,
    ⟨none, .store (.tmp 24) (.tmp 23) 1, none⟩] [2, 3])
  (.seq (.region [
    ⟨some 25, .load (.tmp 3) 7 true .plain, none⟩,
    ⟨none, .store (.tmp 2) (.tmp 25) 7, none⟩] [2])
  .ret))))))))))⟩
-- spec.l1WantOk
def c81 : CFn := ⟨41, [.tmp 2],
  (.seq (.region [
    ⟨some 1, .box (.tmp 0), none⟩,
    ⟨some 2, .mov (.const (.bool false)), none⟩] [1])
  (.seq (.region [
    ⟨some 3, .faddr (.tmp 1) 0, none⟩,
    ⟨some 4, .load (.tmp 3) 1 false .plain, none⟩,
    ⟨some 5, .call 101 [false] [.tmp 4], none⟩,
    ⟨some 6, .mov (.tmp 5), none⟩,
    ⟨some 7, .faddr (.tmp 1) 1, some (6, true)⟩,
    ⟨some 8, .load (.tmp 7) 1 false .plain, some (6, true)⟩,
    ⟨some 9, .call 102 [false, false, false] [.tmp 8, .const (.int .i64 1), .const (.int .i64 1000000)], some (6, true)⟩,
    ⟨some 10, .pick (.tmp 6) (.tmp 9) (.const (.bool false)), none⟩,
    ⟨some 11, .mov (.tmp 10), none⟩,
    ⟨some 12, .faddr (.tmp 1) 2, some (11, true)⟩,
    ⟨some 13, .load (.tmp 12) 1 false .plain, some (11, true)⟩,
    ⟨some 14, .bin .eql (.tmp 13) (.const (.str ⟨#[]⟩)), some (11, true)⟩,
    ⟨some 15, .mov (.tmp 14), some (11, true)⟩,
    ⟨some 16, .faddr (.tmp 1) 2, some (15, false)⟩,
    ⟨some 17, .load (.tmp 16) 1 false .plain, some (15, false)⟩,
    ⟨some 18, .call 100 [false] [.tmp 17], some (15, false)⟩,
    ⟨some 19, .pick (.tmp 15) (.const (.bool true)) (.tmp 18), some (11, true)⟩,
    ⟨some 20, .pick (.tmp 11) (.tmp 19) (.const (.bool false)), none⟩,
    ⟨some 21, .mov (.tmp 20), none⟩,
    ⟨some 22, .faddr (.tmp 1) 3, some (21, true)⟩,
    ⟨some 23, .load (.tmp 22) 1 false .plain, some (21, true)⟩,
    ⟨some 24, .call 102 [false, false, false] [.tmp 23, .const (.int .i64 0), .const (.int .i64 100)], some (21, true)⟩,
    ⟨some 25, .pick (.tmp 21) (.tmp 24) (.const (.bool false)), none⟩,
    ⟨some 26, .mov (.tmp 25), none⟩,
    ⟨some 27, .faddr (.tmp 1) 4, some (26, true)⟩,
    ⟨some 28, .load (.tmp 27) 1 false .plain, some (26, true)⟩,
    ⟨some 29, .call 102 [false, false, false] [.tmp 28, .const (.int .i64 0), .const (.int .i64 100)], some (26, true)⟩,
    ⟨some 30, .pick (.tmp 26) (.tmp 29) (.const (.bool false)), none⟩,
    ⟨some 31, .mov (.tmp 30), none⟩,
    ⟨some 32, .faddr (.tmp 1) 5, some (31, true)⟩,
    ⟨some 33, .load (.tmp 32) 1 false .plain, some (31, true)⟩,
    ⟨some 34, .call 102 [false, false, false] [.tmp 33, .const (.int .i64 0), .const (.int .i64 100)], some (31, true)⟩,
    ⟨some 35, .pick (.tmp 31) (.tmp 34) (.const (.bool false)), none⟩,
    ⟨some 36, .mov (.tmp 35), none⟩,
    ⟨some 37, .faddr (.tmp 1) 6, some (36, true)⟩,
    ⟨some 38, .load (.tmp 37) 1 false .plain, some (36, true)⟩,
    ⟨some 39, .call 102 [false, false, false] [.tmp 38, .const (.int .i64 0), .const (.int .i64 100)], some (36, true)⟩,
    ⟨some 40, .pick (.tmp 36) (.tmp 39) (.const (.bool false)), none⟩,
    ⟨some 2, .mov (.tmp 40), none⟩] [2])
  .ret))⟩
-- impl.wantOk
def c82 : CFn := ⟨41, [.tmp 2],
  (.seq (.region [
    ⟨some 1, .box (.tmp 0), none⟩,
    ⟨some 2, .mov (.const (.bool false)), none⟩] [1])
  (.seq (.region [
    ⟨some 3, .faddr (.tmp 1) 0, none⟩,
    ⟨some 4, .load (.tmp 3) 1 false .plain, none⟩,
    ⟨some 5, .call 105 [false] [.tmp 4], none⟩,
    ⟨some 6, .mov (.tmp 5), none⟩,
    ⟨some 7, .faddr (.tmp 1) 1, some (6, true)⟩,
    ⟨some 8, .load (.tmp 7) 1 false .plain, some (6, true)⟩,
    ⟨some 9, .call 85 [false, false, false] [.tmp 8, .const (.int .i64 1), .const (.int .i64 1000000)], some (6, true)⟩,
    ⟨some 10, .pick (.tmp 6) (.tmp 9) (.const (.bool false)), none⟩,
    ⟨some 11, .mov (.tmp 10), none⟩,
    ⟨some 12, .faddr (.tmp 1) 2, some (11, true)⟩,
    ⟨some 13, .load (.tmp 12) 1 false .plain, some (11, true)⟩,
    ⟨some 14, .bin .eql (.tmp 13) (.const (.str ⟨#[]⟩)), some (11, true)⟩,
    ⟨some 15, .mov (.tmp 14), some (11, true)⟩,
    ⟨some 16, .faddr (.tmp 1) 2, some (15, false)⟩,
    ⟨some 17, .load (.tmp 16) 1 false .plain, some (15, false)⟩,
    ⟨some 18, .call 106 [false] [.tmp 17], some (15, false)⟩,
    ⟨some 19, .pick (.tmp 15) (.const (.bool true)) (.tmp 18), some (11, true)⟩,
    ⟨some 20, .pick (.tmp 11) (.tmp 19) (.const (.bool false)), none⟩,
    ⟨some 21, .mov (.tmp 20), none⟩,
    ⟨some 22, .faddr (.tmp 1) 3, some (21, true)⟩,
    ⟨some 23, .load (.tmp 22) 1 false .plain, some (21, true)⟩,
    ⟨some 24, .call 85 [false, false, false] [.tmp 23, .const (.int .i64 0), .const (.int .i64 100)], some (21, true)⟩,
    ⟨some 25, .pick (.tmp 21) (.tmp 24) (.const (.bool false)), none⟩,
    ⟨some 26, .mov (.tmp 25), none⟩,
    ⟨some 27, .faddr (.tmp 1) 4, some (26, true)⟩,
    ⟨some 28, .load (.tmp 27) 1 false .plain, some (26, true)⟩,
    ⟨some 29, .call 85 [false, false, false] [.tmp 28, .const (.int .i64 0), .const (.int .i64 100)], some (26, true)⟩,
    ⟨some 30, .pick (.tmp 26) (.tmp 29) (.const (.bool false)), none⟩,
    ⟨some 31, .mov (.tmp 30), none⟩,
    ⟨some 32, .faddr (.tmp 1) 5, some (31, true)⟩,
    ⟨some 33, .load (.tmp 32) 1 false .plain, some (31, true)⟩,
    ⟨some 34, .call 85 [false, false, false] [.tmp 33, .const (.int .i64 0), .const (.int .i64 100)], some (31, true)⟩,
    ⟨some 35, .pick (.tmp 31) (.tmp 34) (.const (.bool false)), none⟩,
    ⟨some 36, .mov (.tmp 35), none⟩,
    ⟨some 37, .faddr (.tmp 1) 6, some (36, true)⟩,
    ⟨some 38, .load (.tmp 37) 1 false .plain, some (36, true)⟩,
    ⟨some 39, .call 85 [false, false, false] [.tmp 38, .const (.int .i64 0), .const (.int .i64 100)], some (36, true)⟩,
    ⟨some 40, .pick (.tmp 36) (.tmp 39) (.const (.bool false)), none⟩,
    ⟨some 2, .mov (.tmp 40), none⟩] [2])
  .ret))⟩
-- laws.eqMateWant
def c83 : CFn := ⟨40, [.tmp 4],
  (.seq (.region [
    ⟨some 2, .box (.tmp 0), none⟩,
    ⟨some 3, .box (.tmp 1), none⟩,
    ⟨some 4, .mov (.const (.bool false)), none⟩] [2, 3])
  (.seq (.seq (.region [
    ⟨some 5, .faddr (.tmp 2) 0, none⟩,
    ⟨some 6, .load (.tmp 5) 1 false .plain, none⟩,
    ⟨some 7, .faddr (.tmp 3) 0, none⟩,
    ⟨some 8, .load (.tmp 7) 1 false .plain, none⟩,
    ⟨some 9, .bin .neq (.tmp 6) (.tmp 8), none⟩] [2, 3, 9])
  (.cond (.tmp 9)
    (.seq (.region [
      ⟨some 4, .mov (.const (.bool false)), none⟩] [4])
    .ret)
    .skip))
  (.seq (.seq (.region [
    ⟨some 10, .faddr (.tmp 2) 1, none⟩,
    ⟨some 11, .load (.tmp 10) 1 false .plain, none⟩,
    ⟨some 12, .faddr (.tmp 3) 1, none⟩,
    ⟨some 13, .load (.tmp 12) 1 false .plain, none⟩,
    ⟨some 14, .bin .neq (.tmp 11) (.tmp 13), none⟩] [2, 3, 14])
  (.cond (.tmp 14)
    (.seq (.region [
      ⟨some 4, .mov (.const (.bool false)), none⟩] [4])
    .ret)
    .skip))
  (.seq (.seq (.region [
    ⟨some 15, .faddr (.tmp 2) 2, none⟩,
    ⟨some 16, .load (.tmp 15) 1 false .plain, none⟩,
    ⟨some 17, .faddr (.tmp 3) 2, none⟩,
    ⟨some 18, .load (.tmp 17) 1 false .plain, none⟩,
    ⟨some 19, .bin .neq (.tmp 16) (.tmp 18), none⟩] [2, 3, 19])
  (.cond (.tmp 19)
    (.seq (.region [
      ⟨some 4, .mov (.const (.bool false)), none⟩] [4])
    .ret)
    .skip))
  (.seq (.seq (.region [
    ⟨some 20, .faddr (.tmp 2) 3, none⟩,
    ⟨some 21, .load (.tmp 20) 1 false .plain, none⟩,
    ⟨some 22, .faddr (.tmp 3) 3, none⟩,
    ⟨some 23, .load (.tmp 22) 1 false .plain, none⟩,
    ⟨some 24, .bin .neq (.tmp 21) (.tmp 23), none⟩] [2, 3, 24])
  (.cond (.tmp 24)
    (.seq (.region [
      ⟨some 4, .mov (.const (.bool false)), none⟩] [4])
    .ret)
    .skip))
  (.seq (.seq (.region [
    ⟨some 25, .faddr (.tmp 2) 4, none⟩,
    ⟨some 26, .load (.tmp 25) 1 false .plain, none⟩,
    ⟨some 27, .faddr (.tmp 3) 4, none⟩,
    ⟨some 28, .load (.tmp 27) 1 false .plain, none⟩,
    ⟨some 29, .bin .neq (.tmp 26) (.tmp 28), none⟩] [2, 3, 29])
  (.cond (.tmp 29)
    (.seq (.region [
      ⟨some 4, .mov (.const (.bool false)), none⟩] [4])
    .ret)
    .skip))
  (.seq (.seq (.region [
    ⟨some 30, .faddr (.tmp 2) 5, none⟩,
    ⟨some 31, .load (.tmp 30) 1 false .plain, none⟩,
    ⟨some 32, .faddr (.tmp 3) 5, none⟩,
    ⟨some 33, .load (.tmp 32) 1 false .plain, none⟩,
    ⟨some 34, .bin .neq (.tmp 31) (.tmp 33), none⟩] [2, 3, 34])
  (.cond (.tmp 34)
    (.seq (.region [
      ⟨some 4, .mov (.const (.bool false)), none⟩] [4])
    .ret)
    .skip))
  (.seq (.seq (.region [
    ⟨some 35, .faddr (.tmp 2) 6, none⟩,
    ⟨some 36, .load (.tmp 35) 1 false .plain, none⟩,
    ⟨some 37, .faddr (.tmp 3) 6, none⟩,
    ⟨some 38, .load (.tmp 37) 1 false .plain, none⟩,
    ⟨some 39, .bin .neq (.tmp 36) (.tmp 38), none⟩] [39])
  (.cond (.tmp 39)
    (.seq (.region [
      ⟨some 4, .mov (.const (.bool false)), none⟩] [4])
    .ret)
    .skip))
  (.seq (.region [
    ⟨some 4, .mov (.const (.bool true)), none⟩] [4])
  .ret)))))))))⟩
-- spec.l2RunOk
def c84 : CFn := ⟨60, [.tmp 4],
  (.seq (.region [
    ⟨some 2, .box (.tmp 0), none⟩,
    ⟨some 4, .mov (.const (.bool false)), none⟩] [1, 2])
  (.seq (.seq (.region [
    ⟨some 5, .faddr (.tmp 2) 0, none⟩,
    ⟨some 6, .load (.tmp 5) 7 true .plain, none⟩,
    ⟨some 7, .call 81 [false] [.tmp 6], none⟩,
    ⟨some 8, .un .not (.tmp 7), none⟩,
    ⟨some 9, .mov (.tmp 8), none⟩,
    ⟨some 10, .faddr (.tmp 2) 7, some (9, false)⟩,
    ⟨some 11, .load (.tmp 10) 1 false .plain, some (9, false)⟩,
    ⟨some 12, .call 102 [false, false, false] [.tmp 11, .const (.int .i64 1), .const (.int .i64 6)], some (9, false)⟩,
    ⟨some 13, .un .not (.tmp 12), some (9, false)⟩,
    ⟨some 14, .pick (.tmp 9) (.const (.bool true)) (.tmp 13), none⟩,
    ⟨some 15, .mov (.tmp 14), none⟩,
    ⟨some 16, .faddr (.tmp 2) 8, some (15, false)⟩,
    ⟨some 17, .load (.tmp 16) 1 false .plain, some (15, false)⟩,
    ⟨some 18, .call 102 [false, false, false] [.tmp 17, .const (.int .i64 0), .const (.int .i64 100)], some (15, false)⟩,
    ⟨some 19, .un .not (.tmp 18), some (15, false)⟩,
    ⟨some 20, .pick (.tmp 15) (.const (.bool true)) (.tmp 19), none⟩,
    ⟨some 21, .mov (.tmp 20), none⟩,
    ⟨some 22, .faddr (.tmp 2) 7, some (21, false)⟩,
    ⟨some 23, .load (.tmp 22) 1 false .plain, some (21, false)⟩,
    ⟨some 24, .bin .eql (.tmp 23) (.const (.int .i64 2)), some (21, false)⟩,
    ⟨some 25, .mov (.tmp 24), some (21, false)⟩,
    ⟨some 26, .faddr (.tmp 2) 8, some (25, true)⟩,
    ⟨some 27, .load (.tmp 26) 1 false .plain, some (25, true)⟩,
    ⟨some 28, .bin .neq (.tmp 27) (.const (.int .i64 0)), some (25, true)⟩,
    ⟨some 29, .pick (.tmp 25) (.tmp 28) (.const (.bool false)), some (21, false)⟩,
    ⟨some 30, .pick (.tmp 21) (.const (.bool true)) (.tmp 29), none⟩,
    ⟨some 31, .mov (.tmp 30), none⟩,
    ⟨some 32, .faddr (.tmp 2) 9, some (31, false)⟩,
    ⟨some 33, .load (.tmp 32) 1 false .plain, some (31, false)⟩,
    ⟨some 34, .call 102 [false, false, false] [.tmp 33, .const (.int .i64 0), .const (.int .i64 1000)], some (31, false)⟩,
    ⟨some 35, .un .not (.tmp 34), some (31, false)⟩,
    ⟨some 36, .pick (.tmp 31) (.const (.bool true)) (.tmp 35), none⟩] [1, 2, 36])
  (.cond (.tmp 36)
    (.seq (.region [
      ⟨some 4, .mov (.const (.bool false)), none⟩] [4])
    .ret)
    .skip))
  (.seq (.seq (.region [
    ⟨some 37, .faddr (.tmp 2) 10, none⟩,
    ⟨some 38, .load (.tmp 37) 1 false .plain, none⟩,
    ⟨some 39, .call 102 [false, false, false] [.tmp 38, .const (.int .i64 0), .const (.int .i64 1000016)], none⟩,
    ⟨some 40, .un .not (.tmp 39), none⟩,
    ⟨some 41, .mov (.tmp 40), none⟩,
    ⟨some 42, .faddr (.tmp 2) 0, some (41, false)⟩,
    ⟨some 43, .faddr (.tmp 42) 2, some (41, false)⟩,
    ⟨some 44, .load (.tmp 43) 1 false .plain, some (41, false)⟩,
    ⟨some 45, .bin .eql (.tmp 44) (.const (.str ⟨#[]⟩)), some (41, false)⟩,
    ⟨some 46, .mov (.tmp 45), some (41, false)⟩,
    ⟨some 47, .faddr (.tmp 2) 10, some (46, true)⟩,
    ⟨some 48, .load (.tmp 47) 1 false .plain, some (46, true)⟩,
    ⟨some 49, .bin .neq (.tmp 48) (.const (.int .i64 0)), some (46, true)⟩,
    ⟨some 50, .pick (.tmp 46) (.tmp 49) (.const (.bool false)), some (41, false)⟩,
    ⟨some 51, .pick (.tmp 41) (.const (.bool true)) (.tmp 50), none⟩] [1, 2, 51])
  (.cond (.tmp 51)
    (.seq (.region [
      ⟨some 4, .mov (.const (.bool false)), none⟩] [4])
    .ret)
    .skip))
  (.seq (.region [
    ⟨some 52, .load (.tmp 2) 11 true .plain, none⟩,
    ⟨some 53, .call 2 [false] [.tmp 52], none⟩,
    ⟨some 54, .un .not (.tmp 53), none⟩,
    ⟨some 55, .mov (.tmp 54), none⟩,
    ⟨some 56, .load (.tmp 2) 11 true .plain, some (55, false)⟩,
    ⟨some 57, .mov (.tmp 1), some (55, false)⟩,
    ⟨some 58, .call 95 [false, false] [.tmp 56, .tmp 57], some (55, false)⟩,
    ⟨some 59, .pick (.tmp 55) (.const (.bool true)) (.tmp 58), none⟩,
    ⟨some 4, .mov (.tmp 59), none⟩] [4])
  .ret))))⟩
-- impl.in
def c85 : CFn := ⟨15, [.tmp 6],
  (.seq (.region [
    ⟨some 6, .mov (.const (.bool false)), none⟩] [0, 1, 2])
  (.seq (.region [
    ⟨some 7, .mov (.tmp 0), none⟩,
    ⟨some 8, .mov (.tmp 1), none⟩,
    ⟨some 9, .bin .geq (.tmp 7) (.tmp 8), none⟩,
    ⟨some 10, .mov (.tmp 9), none⟩,
    ⟨some 11, .mov (.tmp 0), some (10, true)⟩,
    ⟨some 12, .mov (.tmp 2), some (10, true)⟩,
    ⟨some 13, .bin .leq (.tmp 11) (.tmp 12), some (10, true)⟩,
    ⟨some 14, .pick (.tmp 10) (.tmp 13) (.const (.bool false)), none⟩,
    ⟨some 6, .mov (.tmp 14), none⟩] [6])
  .ret))⟩
-- laws.eqMateRun
def c86 : CFn := ⟨31, [.tmp 4],
  (.seq (.region [
    ⟨some 2, .box (.tmp 0), none⟩,
    ⟨some 3, .box (.tmp 1), none⟩,
    ⟨some 4, .mov (.const (.bool false)), none⟩] [2, 3])
  (.seq (.seq (.region [
    ⟨some 5, .faddr (.tmp 2) 0, none⟩,
    ⟨some 6, .load (.tmp 5) 7 true .plain, none⟩,
    ⟨some 7, .faddr (.tmp 3) 0, none⟩,
    ⟨some 8, .load (.tmp 7) 7 true .plain, none⟩,
    ⟨some 9, .call 83 [false, false] [.tmp 6, .tmp 8], none⟩,
    ⟨some 10, .un .not (.tmp 9), none⟩] [2, 3, 10])
  (.cond (.tmp 10)
    (.seq (.region [
      ⟨some 4, .mov (.const (.bool false)), none⟩] [4])
    .ret)
    .skip))
  (.seq (.seq (.region [
    ⟨some 11, .faddr (.tmp 2) 7, none⟩,
    ⟨some 12, .load (.tmp 11) 1 false .plain, none⟩,
    ⟨some 13, .faddr (.tmp 3) 7, none⟩,
    ⟨some 14, .load (.tmp 13) 1 false .plain, none⟩,
    ⟨some 15, .bin .neq (.tmp 12) (.tmp 14), none⟩] [2, 3, 15])
  (.cond (.tmp 15)
    (.seq (.region [
      ⟨some 4, .mov (.const (.bool false)), none⟩] [4])
    .ret)
    .skip))
  (.seq (.seq (.region [
    ⟨some 16, .faddr (.tmp 2) 8, none⟩,
    ⟨some 17, .load (.tmp 16) 1 false .plain, none⟩,
    ⟨some 18, .faddr (.tmp 3) 8, none⟩,
    ⟨some 19, .load (.tmp 18) 1 false .plain, none⟩,
    ⟨some 20, .bin .neq (.tmp 17) (.tmp 19), none⟩] [2, 3, 20])
  (.cond (.tmp 20)
    (.seq (.region [
      ⟨some 4, .mov (.const (.bool false)), none⟩] [4])
    .ret)
    .skip))
  (.seq (.seq (.region [
    ⟨some 21, .faddr (.tmp 2) 9, none⟩,
    ⟨some 22, .load (.tmp 21) 1 false .plain, none⟩,
    ⟨some 23, .faddr (.tmp 3) 9, none⟩,
    ⟨some 24, .load (.tmp 23) 1 false .plain, none⟩,
    ⟨some 25, .bin .neq (.tmp 22) (.tmp 24), none⟩] [2, 3, 25])
  (.cond (.tmp 25)
    (.seq (.region [
      ⟨some 4, .mov (.const (.bool false)), none⟩] [4])
    .ret)
    .skip))
  (.seq (.seq (.region [
    ⟨some 26, .faddr (.tmp 2) 10, none⟩,
    ⟨some 27, .load (.tmp 26) 1 false .plain, none⟩,
    ⟨some 28, .faddr (.tmp 3) 10, none⟩,
    ⟨some 29, .load (.tmp 28) 1 false .plain, none⟩,
    ⟨some 30, .bin .neq (.tmp 27) (.tmp 29), none⟩] [30])
  (.cond (.tmp 30)
    (.seq (.region [
      ⟨some 4, .mov (.const (.bool false)), none⟩] [4])
    .ret)
    .skip))
  (.seq (.region [
    ⟨some 4, .mov (.const (.bool true)), none⟩] [4])
  .ret)))))))⟩
-- spec.l2Leased
def c95 : CFn := ⟨16, [.tmp 4],
  (.seq (.region [
    ⟨some 2, .box (.tmp 0), none⟩,
    ⟨some 4, .mov (.const (.bool false)), none⟩] [1, 2])
  (.seq (.region [
    ⟨some 5, .faddr (.tmp 2) 0, none⟩,
    ⟨some 6, .faddr (.tmp 5) 2, none⟩,
    ⟨some 7, .load (.tmp 6) 1 false .plain, none⟩,
    ⟨some 8, .bin .eql (.tmp 7) (.const (.str ⟨#[]⟩)), none⟩,
    ⟨some 9, .mov (.tmp 8), none⟩,
    ⟨some 10, .faddr (.tmp 2) 10, some (9, false)⟩,
    ⟨some 11, .load (.tmp 10) 1 false .plain, some (9, false)⟩,
    ⟨some 12, .mov (.tmp 1), some (9, false)⟩,
    ⟨some 13, .bin .add (.tmp 12) (.const (.int .i64 4)), some (9, false)⟩,
    ⟨some 14, .bin .geq (.tmp 11) (.tmp 13), some (9, false)⟩,
    ⟨some 15, .pick (.tmp 9) (.const (.bool true)) (.tmp 14), none⟩,
    ⟨some 4, .mov (.tmp 15), none⟩] [4])
  .ret))⟩
-- laws.markText
def c96b0 : CCode := (.seq (.seq (.region [
    ⟨some 6, .mov (.tmp 0), none⟩,
    ⟨some 7, .bin .gtr (.tmp 6) (.const (.int .i64 0)), none⟩] [0, 3, 7])
  (.cond (.tmp 7)
    .skip
    (.exit 0)))
  (.block 1
    (.seq (.region [
      ⟨some 8, .mov (.tmp 0), none⟩,
      ⟨some 9, .bin .rem (.tmp 8) (.const (.int .i64 10)), none⟩,
      ⟨some 10, .bin .add (.const (.int .i64 48)) (.tmp 9), none⟩,
      ⟨some 11, .conv .u8 (.tmp 10), none⟩,
      ⟨some 12, .bslice 1 [.int .u8 0] 1 [(0, .tmp 11)], none⟩,
      ⟨some 13, .toStr (.tmp 12), none⟩,
      ⟨some 14, .mov (.tmp 3), none⟩,
      ⟨some 15, .bin .add (.tmp 13) (.tmp 14), none⟩,
      ⟨some 3, .mov (.tmp 15), none⟩] [0, 3])
    (.region [
      ⟨some 16, .mov (.tmp 0), none⟩,
      ⟨some 17, .bin .quo (.tmp 16) (.const (.int .i64 10)), none⟩,
      ⟨some 0, .mov (.tmp 17), none⟩] [0, 3]))))
def c96 : CFn := ⟨20, [.tmp 2],
  (.seq (.region [
    ⟨some 2, .mov (.const (.str ⟨#[]⟩)), none⟩] [0])
  (.seq (.seq (.region [
    ⟨some 4, .mov (.tmp 0), none⟩,
    ⟨some 5, .bin .leq (.tmp 4) (.const (.int .i64 0)), none⟩] [0, 5])
  (.cond (.tmp 5)
    (.seq (.region [
      ⟨some 2, .mov (.const (.str ⟨#[109, 48]⟩)), none⟩] [2])
    .ret)
    .skip))
  (.seq (.region [
    ⟨some 3, .mov (.const (.str ⟨#[]⟩)), none⟩] [0, 3])
  (.seq (.block 0
    (.loop [0, 3] c96b0))
  (.seq (.region [
    ⟨some 18, .mov (.tmp 3), none⟩,
    ⟨some 19, .bin .add (.const (.str ⟨#[109]⟩)) (.tmp 18), none⟩,
    ⟨some 2, .mov (.tmp 19), none⟩] [2])
  .ret)))))⟩
-- spec.l1HoldOk
def c100 : CFn := ⟨9, [.tmp 2],
  (.seq (.region [
    ⟨some 2, .mov (.const (.bool false)), none⟩] [0])
  (.seq (.region [
    ⟨some 3, .mov (.tmp 0), none⟩,
    ⟨some 4, .call 101 [false] [.tmp 3], none⟩,
    ⟨some 5, .mov (.tmp 4), none⟩,
    ⟨some 6, .mov (.tmp 0), some (5, true)⟩,
    ⟨some 7, .bin .neq (.tmp 6) (.const (.str ⟨#[42]⟩)), some (5, true)⟩,
    ⟨some 8, .pick (.tmp 5) (.tmp 7) (.const (.bool false)), none⟩,
    ⟨some 2, .mov (.tmp 8), none⟩] [2])
  .ret))⟩
-- spec.l1NameOk
def c101b0 : CCode := (.seq (.seq (.region [
    ⟨some 8, .mov (.tmp 3), none⟩,
    ⟨some 9, .mov (.tmp 0), none⟩,
    ⟨some 10, .len true (.tmp 9), none⟩,
    ⟨some 11, .bin .lss (.tmp 8) (.tmp 10), none⟩] [0, 3, 11])
  (.cond (.tmp 11)
    .skip
    (.exit 0)))
  (.seq (.block 1
    (.seq (.region [
      ⟨some 14, .mov (.tmp 0), none⟩,
      ⟨some 15, .mov (.tmp 3), none⟩,
      ⟨some 16, .sidx (.tmp 14) (.tmp 15), none⟩,
      ⟨some 17, .bin .lss (.tmp 16) (.const (.int .u8 33)), none⟩,
      ⟨some 18, .mov (.tmp 17), none⟩,
      ⟨some 19, .mov (.tmp 0), some (18, false)⟩,
      ⟨some 20, .mov (.tmp 3), some (18, false)⟩,
      ⟨some 21, .sidx (.tmp 19) (.tmp 20), some (18, false)⟩,
      ⟨some 22, .bin .gtr (.tmp 21) (.const (.int .u8 126)), some (18, false)⟩,
      ⟨some 23, .pick (.tmp 18) (.const (.bool true)) (.tmp 22), none⟩] [0, 3, 23])
    (.cond (.tmp 23)
      (.seq (.region [
        ⟨some 2, .mov (.const (.bool false)), none⟩] [2])
      .ret)
      .skip)))
  (.region [
    ⟨some 12, .mov (.tmp 3), none⟩,
    ⟨some 13, .bin .add (.tmp 12) (.const (.int .i64 1)), none⟩,
    ⟨some 3, .mov (.tmp 13), none⟩] [0, 3])))
def c101 : CFn := ⟨24, [.tmp 2],
  (.seq (.region [
    ⟨some 2, .mov (.const (.bool false)), none⟩] [0])
  (.seq (.seq (.region [
    ⟨some 4, .mov (.tmp 0), none⟩,
    ⟨some 5, .len true (.tmp 4), none⟩,
    ⟨some 6, .call 102 [false, false, false] [.tmp 5, .const (.int .i64 1), .const (.int .i64 20)], none⟩,
    ⟨some 7, .un .not (.tmp 6), none⟩] [0, 7])
  (.cond (.tmp 7)
    (.seq (.region [
      ⟨some 2, .mov (.const (.bool false)), none⟩] [2])
    .ret)
    .skip))
  (.seq (.seq (.region [
    ⟨some 3, .mov (.const (.int .i64 0)), none⟩] [0, 3])
  (.block 0
    (.loop [0, 3] c101b0)))
  (.seq (.region [
    ⟨some 2, .mov (.const (.bool true)), none⟩] [2])
  .ret))))⟩
-- spec.l1In
def c102 : CFn := ⟨15, [.tmp 6],
  (.seq (.region [
    ⟨some 6, .mov (.const (.bool false)), none⟩] [0, 1, 2])
  (.seq (.region [
    ⟨some 7, .mov (.tmp 0), none⟩,
    ⟨some 8, .mov (.tmp 1), none⟩,
    ⟨some 9, .bin .geq (.tmp 7) (.tmp 8), none⟩,
    ⟨some 10, .mov (.tmp 9), none⟩,
    ⟨some 11, .mov (.tmp 0), some (10, true)⟩,
    ⟨some 12, .mov (.tmp 2), some (10, true)⟩,
    ⟨some 13, .bin .leq (.tmp 11) (.tmp 12), some (10, true)⟩,
    ⟨some 14, .pick (.tmp 10) (.tmp 13) (.const (.bool false)), none⟩,
    ⟨some 6, .mov (.tmp 14), none⟩] [6])
  .ret))⟩
-- impl.isName
def c105b0 : CCode := (.seq (.region [
    ⟨some 15, .bin .lss (.tmp 14) (.tmp 13), none⟩] [0, 13, 14, 15])
  (.seq (.cond (.tmp 15)
    .skip
    (.exit 0))
  (.seq (.block 1
    (.seq (.region [
      ⟨some 16, .mov (.tmp 14), none⟩,
      ⟨some 3, .mov (.tmp 16), none⟩] [0, 3, 13, 14])
    (.seq (.region [
      ⟨some 17, .mov (.tmp 0), none⟩,
      ⟨some 18, .mov (.tmp 3), none⟩,
      ⟨some 19, .sidx (.tmp 17) (.tmp 18), none⟩,
      ⟨some 20, .bin .lss (.tmp 19) (.const (.int .u8 33)), none⟩,
      ⟨some 21, .mov (.tmp 20), none⟩,
      ⟨some 22, .mov (.tmp 0), some (21, false)⟩,
      ⟨some 23, .mov (.tmp 3), some (21, false)⟩,
      ⟨some 24, .sidx (.tmp 22) (.tmp 23), some (21, false)⟩,
      ⟨some 25, .bin .gtr (.tmp 24) (.const (.int .u8 126)), some (21, false)⟩,
      ⟨some 26, .pick (.tmp 21) (.const (.bool true)) (.tmp 25), none⟩] [0, 13, 14, 26])
    (.cond (.tmp 26)
      (.seq (.region [
        ⟨some 2, .mov (.const (.bool false)), none⟩] [2])
      .ret)
      .skip))))
  (.region [
    ⟨some 27, .bin .add (.tmp 14) (.const (.int .i64 1)), none⟩,
    ⟨some 14, .mov (.tmp 27), none⟩] [0, 13, 14]))))
def c105 : CFn := ⟨28, [.tmp 2],
  (.seq (.region [
    ⟨some 2, .mov (.const (.bool false)), none⟩] [0])
  (.seq (.seq (.region [
    ⟨some 4, .mov (.tmp 0), none⟩,
    ⟨some 5, .len true (.tmp 4), none⟩,
    ⟨some 6, .bin .lss (.tmp 5) (.const (.int .i64 1)), none⟩,
    ⟨some 7, .mov (.tmp 6), none⟩,
    ⟨some 8, .mov (.tmp 0), some (7, false)⟩,
    ⟨some 9, .len true (.tmp 8), some (7, false)⟩,
    ⟨some 10, .bin .gtr (.tmp 9) (.const (.int .i64 20)), some (7, false)⟩,
    ⟨some 11, .pick (.tmp 7) (.const (.bool true)) (.tmp 10), none⟩] [0, 11])
  (.cond (.tmp 11)
    (.seq (.region [
      ⟨some 2, .mov (.const (.bool false)), none⟩] [2])
    .ret)
    .skip))
  (.seq (.seq (.region [
    ⟨some 12, .mov (.tmp 0), none⟩,
    ⟨some 13, .len true (.tmp 12), none⟩,
    ⟨some 14, .mov (.const (.int .i64 0)), none⟩] [0, 13, 14])
  (.block 0
    (.loop [0, 13, 14] c105b0)))
  (.seq (.region [
    ⟨some 2, .mov (.const (.bool true)), none⟩] [2])
  .ret))))⟩
-- impl.isHold
def c106 : CFn := ⟨9, [.tmp 2],
  (.seq (.region [
    ⟨some 2, .mov (.const (.bool false)), none⟩] [0])
  (.seq (.region [
    ⟨some 3, .mov (.tmp 0), none⟩,
    ⟨some 4, .call 105 [false] [.tmp 3], none⟩,
    ⟨some 5, .mov (.tmp 4), none⟩,
    ⟨some 6, .mov (.tmp 0), some (5, true)⟩,
    ⟨some 7, .bin .neq (.tmp 6) (.const (.str ⟨#[42]⟩)), some (5, true)⟩,
    ⟨some 8, .pick (.tmp 5) (.tmp 7) (.const (.bool false)), none⟩,
    ⟨some 2, .mov (.tmp 8), none⟩] [2])
  .ret))⟩
-- laws.szMateAskS
def c109b0 : CCode := (.seq (.seq (.region [
    ⟨some 12, .mov (.tmp 5), none⟩,
    ⟨some 13, .mov (.tmp 0), none⟩,
    ⟨some 14, .len false (.tmp 13), none⟩,
    ⟨some 15, .bin .lss (.tmp 12) (.tmp 14), none⟩] [0, 1, 5, 15])
  (.cond (.tmp 15)
    .skip
    (.exit 0)))
  (.seq (.block 1
    (.seq (.region [
      ⟨some 18, .mov (.tmp 0), none⟩,
      ⟨some 19, .mov (.tmp 5), none⟩,
      ⟨some 20, .iaddr 4 (.tmp 18) (.tmp 19), none⟩,
      ⟨some 21, .load (.tmp 20) 4 true .plain, none⟩,
      ⟨some 22, .mov (.tmp 1), none⟩,
      ⟨some 23, .call 152 [false, false] [.tmp 21, .tmp 22], none⟩,
      ⟨some 1, .mov (.tmp 23), none⟩] [0, 1, 5])
    (.seq (.region [
      ⟨some 24, .mov (.tmp 1), none⟩,
      ⟨some 25, .bin .lss (.tmp 24) (.const (.int .i64 0)), none⟩] [0, 1, 5, 25])
    (.cond (.tmp 25)
      (.seq (.region [
        ⟨some 4, .mov (.const (.int .i64 (-1))), none⟩] [4])
      .ret)
      .skip))))
  (.region [
    ⟨some 16, .mov (.tmp 5), none⟩,
    ⟨some 17, .bin .add (.tmp 16) (.const (.int .i64 1)), none⟩,
    ⟨some 5, .mov (.tmp 17), none⟩] [0, 1, 5])))
def c109 : CFn := ⟨27, [.tmp 4],
  (.seq (.region [
    ⟨some 4, .mov (.const (.int .i64 0)), none⟩] [0, 1])
  (.seq (.region [
    ⟨some 6, .mov (.tmp 1), none⟩,
    ⟨some 7, .mov (.tmp 0), none⟩,
    ⟨some 8, .len false (.tmp 7), none⟩,
    ⟨some 9, .bin .sub (.tmp 6) (.tmp 8), none⟩,
    ⟨some 1, .mov (.tmp 9), none⟩] [0, 1])
  (.seq (.seq (.region [
    ⟨some 10, .mov (.tmp 1), none⟩,
    ⟨some 11, .bin .lss (.tmp 10) (.const (.int .i64 0)), none⟩] [0, 1, 11])
  (.cond (.tmp 11)
    (.seq (.region [
      ⟨some 4, .mov (.const (.int .i64 (-1))), none⟩] [4])
    .ret)
    .skip))
  (.seq (.seq (.region [
    ⟨some 5, .mov (.const (.int .i64 0)), none⟩] [0, 1, 5])
  (.block 0
    (.loop [0, 1, 5] c109b0)))
  (.seq (.region [
    ⟨some 26, .mov (.tmp 1), none⟩,
    ⟨some 4, .mov (.tmp 26), none⟩] [4])
  .ret)))))⟩
-- spec.l4Ask
def c110b0 : CCode := (.seq (.seq (.region [
    ⟨some 6, .mov (.tmp 5), none⟩,
    ⟨some 7, .mov (.tmp 0), none⟩,
    ⟨some 8, .len false (.tmp 7), none⟩,
    ⟨some 9, .bin .lss (.tmp 6) (.tmp 8), none⟩] [0, 1, 5, 9])
  (.cond (.tmp 9)
    .skip
    (.exit 0)))
  (.seq (.block 1
    (.seq (.region [
      ⟨some 12, .mov (.tmp 0), none⟩,
      ⟨some 13, .mov (.tmp 5), none⟩,
      ⟨some 14, .iaddr 4 (.tmp 12) (.tmp 13), none⟩,
      ⟨some 15, .faddr (.tmp 14) 0, none⟩,
      ⟨some 16, .load (.tmp 15) 1 false .plain, none⟩,
      ⟨some 17, .mov (.tmp 1), none⟩,
      ⟨some 18, .bin .eql (.tmp 16) (.tmp 17), none⟩] [0, 1, 5, 18])
    (.cond (.tmp 18)
      (.seq (.region [
        ⟨some 19, .mov (.tmp 5), none⟩,
        ⟨some 4, .mov (.tmp 19), none⟩] [4])
      .ret)
      .skip)))
  (.region [
    ⟨some 10, .mov (.tmp 5), none⟩,
    ⟨some 11, .bin .add (.tmp 10) (.const (.int .i64 1)), none⟩,
    ⟨some 5, .mov (.tmp 11), none⟩] [0, 1, 5])))
def c110 : CFn := ⟨20, [.tmp 4],
  (.seq (.region [
    ⟨some 4, .mov (.const (.int .i64 0)), none⟩] [0, 1])
  (.seq (.seq (.region [
    ⟨some 5, .mov (.const (.int .i64 0)), none⟩] [0, 1, 5])
  (.block 0
    (.loop [0, 1, 5] c110b0)))
  (.seq (.region [
    ⟨some 4, .mov (.const (.int .i64 (-1))), none⟩] [4])
  .ret)))⟩
-- spec.l4AsksOk
def c111b0 : CCode := (.seq (.seq (.region [
    ⟨some 10, .mov (.tmp 5), none⟩,
    ⟨some 11, .mov (.tmp 0), none⟩,
    ⟨some 12, .len false (.tmp 11), none⟩,
    ⟨some 13, .bin .lss (.tmp 10) (.tmp 12), none⟩] [0, 1, 5, 13])
  (.cond (.tmp 13)
    .skip
    (.exit 0)))
  (.seq (.block 1
    (.seq (.region [
      ⟨some 16, .mov (.tmp 0), none⟩,
      ⟨some 17, .mov (.tmp 5), none⟩,
      ⟨some 18, .iaddr 4 (.tmp 16) (.tmp 17), none⟩,
      ⟨some 19, .load (.tmp 18) 4 true .plain, none⟩,
      ⟨some 6, .alloc [.str ⟨#[]⟩, .str ⟨#[]⟩, .int .i64 0, .int .i64 0], none⟩,
      ⟨none, .store (.tmp 6) (.tmp 19) 4, none⟩] [0, 1, 5, 6])
    (.seq (.quiet [
      ⟨some 20, .faddr (.tmp 6) 0, none⟩,
      ⟨some 21, .load (.tmp 20) 1 false .plain, none⟩,
      ⟨some 22, .call 100 [false] [.tmp 21], none⟩,
      ⟨some 23, .un .not (.tmp 22), none⟩,
      ⟨some 24, .mov (.tmp 23), none⟩,
      ⟨some 25, .faddr (.tmp 6) 1, some (24, false)⟩,
      ⟨some 26, .load (.tmp 25) 1 false .plain, some (24, false)⟩,
      ⟨some 27, .call 101 [false] [.tmp 26], some (24, false)⟩,
      ⟨some 28, .un .not (.tmp 27), some (24, false)⟩,
      ⟨some 29, .pick (.tmp 24) (.const (.bool true)) (.tmp 28), none⟩,
      ⟨some 30, .mov (.tmp 29), none⟩,
      ⟨some 31, .faddr (.tmp 6) 3, some (30, false)⟩,
      ⟨some 32, .load (.tmp 31) 1 false .plain, some (30, false)⟩,
      ⟨some 33, .mov (.tmp 1), some (30, false)⟩,
      ⟨some 34, .call 102 [false, false, false] [.tmp 32, .const (.int .i64 0), .tmp 33], some (30, false)⟩,
      ⟨some 35, .un .not (.tmp 34), some (30, false)⟩,
      ⟨some 36, .pick (.tmp 30) (.const (.bool true)) (.tmp 35), none⟩,
      ⟨some 37, .mov (.tmp 36), none⟩,
      ⟨some 38, .faddr (.tmp 6) 2, some (37, false)⟩,
      ⟨some 39, .load (.tmp 38) 1 false .plain, some (37, false)⟩,
      ⟨some 40, .faddr (.tmp 6) 3, some (37, false)⟩,
      ⟨some 41, .load (.tmp 40) 1 false .plain, some (37, false)⟩,
      ⟨some 42, .call 102 [false, false, false] [.tmp 39, .const (.int .i64 0), .tmp 41], some (37, false)⟩,
      ⟨some 43, .un .not (.tmp 42), some (37, false)⟩,
      ⟨some 44, .pick (.tmp 37) (.const (.bool true)) (.tmp 43), none⟩,
      ⟨some 45, .mov (.tmp 44), none⟩,
      ⟨some 46, .mov (.tmp 5), some (45, false)⟩,
      ⟨some 47, .bin .gtr (.tmp 46) (.const (.int .i64 0)), some (45, false)⟩,
      ⟨some 48, .mov (.tmp 47), some (45, false)⟩,
      ⟨some 49, .mov (.tmp 0), some (48, true)⟩,
      ⟨some 50, .mov (.tmp 5), some (48, true)⟩,
      ⟨some 51, .bin .sub (.tmp 50) (.const (.int .i64 1)), some (48, true)⟩,
      ⟨some 52, .iaddr 4 (.tmp 49) (.tmp 51), some (48, true)⟩,
      ⟨some 53, .faddr (.tmp 52) 0, some (48, true)⟩,
      ⟨some 54, .load (.tmp 53) 1 false .plain, some (48, true)⟩,
      ⟨some 55, .faddr (.tmp 6) 0, some (48, true)⟩,
      ⟨some 56, .load (.tmp 55) 1 false .plain, some (48, true)⟩,
      ⟨some 57, .bin .geq (.tmp 54) (.tmp 56), some (48, true)⟩,
      ⟨some 58, .pick (.tmp 48) (.tmp 57) (.const (.bool false)), some (45, false)⟩,
      ⟨some 59, .pick (.tmp 45) (.const (.bool true)) (.tmp 58), none⟩] [0, 1, 5, 59])
    (.cond (.tmp 59)
      (.seq (.region [
        ⟨some 4, .mov (.const (.bool false)), none⟩] [4])
      .ret)
      .skip))))
  (.region [
    ⟨some 14, .mov (.tmp 5), none⟩,
    ⟨some 15, .bin .add (.tmp 14) (.const (.int .i64 1)), none⟩,
    ⟨some 5, .mov (.tmp 15), none⟩] [0, 1, 5])))
def c111 : CFn := ⟨60, [.tmp 4],
  (.seq (.region [
    ⟨some 4, .mov (.const (.bool false)), none⟩] [0, 1])
  (.seq (.seq (.region [
    ⟨some 7, .mov (.tmp 0), none⟩,
    ⟨some 8, .len false (.tmp 7), none⟩,
    ⟨some 9, .bin .gtr (.tmp 8) (.const (.int .i64 40)), none⟩] [0, 1, 9])
  (.cond (.tmp 9)
    (.seq (.region [
      ⟨some 4, .mov (.const (.bool false)), none⟩] [4])
    .ret)
    .skip))
  (.seq (.seq (.region [
    ⟨some 5, .mov (.const (.int .i64 0)), none⟩] [0, 1, 5])
  (.block 0
    (.loop [0, 1, 5] c111b0)))
  (.seq (.region [
    ⟨some 4, .mov (.const (.bool true)), none⟩] [4])
  .ret))))⟩
-- laws.toMateAskS
def c112b0 : CCode := (.seq (.seq (.region [
    ⟨some 8, .mov (.tmp 4), none⟩,
    ⟨some 9, .mov (.tmp 0), none⟩,
    ⟨some 10, .len false (.tmp 9), none⟩,
    ⟨some 11, .bin .lss (.tmp 8) (.tmp 10), none⟩] [0, 3, 4, 11])
  (.cond (.tmp 11)
    .skip
    (.exit 0)))
  (.seq (.block 1
    (.region [
      ⟨some 14, .mov (.tmp 3), none⟩,
      ⟨some 15, .mov (.tmp 4), none⟩,
      ⟨some 16, .mov (.tmp 0), none⟩,
      ⟨some 17, .mov (.tmp 4), none⟩,
      ⟨some 18, .iaddr 4 (.tmp 16) (.tmp 17), none⟩,
      ⟨some 19, .load (.tmp 18) 4 true .plain, none⟩,
      ⟨some 20, .call 153 [false] [.tmp 19], none⟩,
      ⟨some 21, .iaddr 4 (.tmp 14) (.tmp 15), none⟩,
      ⟨none, .store (.tmp 21) (.tmp 20) 4, none⟩] [0, 3, 4]))
  (.region [
    ⟨some 12, .mov (.tmp 4), none⟩,
    ⟨some 13, .bin .add (.tmp 12) (.const (.int .i64 1)), none⟩,
    ⟨some 4, .mov (.tmp 13), none⟩] [0, 3, 4])))
def c112 : CFn := ⟨23, [.tmp 2],
  (.seq (.region [
    ⟨some 2, .mov (.const (.sl .own 4 [])), none⟩] [0])
  (.seq (.region [
    ⟨some 5, .mov (.tmp 0), none⟩,
    ⟨some 6, .len false (.tmp 5), none⟩,
    ⟨some 7, .mksl 4 [.str ⟨#[]⟩, .str ⟨#[]⟩, .int .i64 0, .int .i64 0] 48 (.tmp 6), none⟩,
    ⟨some 3, .mov (.tmp 7), none⟩] [0, 3])
  (.seq (.seq (.region [
    ⟨some 4, .mov (.const (.int .i64 0)), none⟩] [0, 3, 4])
  (.block 0
    (.loop [0, 3, 4] c112b0)))
  (.seq (.region [
    ⟨some 22, .mov (.tmp 3), none⟩,
    ⟨some 2, .mov (.tmp 22), none⟩] [2])
  .ret))))⟩
-- impl.askFor
def c113b0 : CCode := (.seq (.region [
    ⟨some 10, .bin .lss (.tmp 9) (.tmp 8), none⟩] [1, 7, 8, 9, 10])
  (.seq (.cond (.tmp 10)
    .skip
    (.exit 0))
  (.seq (.block 1
    (.seq (.region [
      ⟨some 11, .mov (.tmp 9), none⟩,
      ⟨some 12, .iaddr 4 (.tmp 7) (.tmp 9), none⟩,
      ⟨some 13, .load (.tmp 12) 4 true .plain, none⟩,
      ⟨some 6, .alloc [.str ⟨#[]⟩, .str ⟨#[]⟩, .int .i64 0, .int .i64 0], none⟩,
      ⟨some 5, .mov (.tmp 11), none⟩,
      ⟨none, .store (.tmp 6) (.tmp 13) 4, none⟩] [1, 5, 6, 7, 8, 9])
    (.seq (.region [
      ⟨some 14, .faddr (.tmp 6) 0, none⟩,
      ⟨some 15, .load (.tmp 14) 1 false .plain, none⟩,
      ⟨some 16, .mov (.tmp 1), none⟩,
      ⟨some 17, .bin .eql (.tmp 15) (.tmp 16), none⟩] [1, 5, 7, 8, 9, 17])
    (.cond (.tmp 17)
      (.seq (.region [
        ⟨some 18, .mov (.tmp 5), none⟩,
        ⟨some 4, .mov (.tmp 18), none⟩] [4])
      .ret)
      .skip))))
  (.region [
    ⟨some 19, .bin .add (.tmp 9) (.const (.int .i64 1)), none⟩,
    ⟨some 9, .mov (.tmp 19), none⟩] [1, 7, 8, 9]))))
def c113 : CFn := ⟨20, [.tmp 4],
  (.seq (.region [
    ⟨some 4, .mov (.const (.int .i64 0)), none⟩] [0, 1])
  (.seq (.seq (.region [
    ⟨some 7, .mov (.tmp 0), none⟩,
    ⟨some 8, .len false (.tmp 7), none⟩,
    ⟨some 9, .mov (.const (.int .i64 0)), none⟩] [1, 7, 8, 9])
  (.block 0
    (.loop [1, 7, 8, 9] c113b0)))
  (.seq (.region [
    ⟨some 4, .mov (.const (.int .i64 (-1))), none⟩] [4])
  .ret)))⟩
-- impl.asksOk
def c114b0 : CCode := (.seq (.region [
    ⟨some 10, .bin .lss (.tmp 9) (.tmp 8), none⟩] [0, 1, 7, 8, 9, 10])
  (.seq (.cond (.tmp 10)
    .skip
    (.exit 0))
  (.seq (.block 1
    (.seq (.region [
      ⟨some 11, .mov (.tmp 9), none⟩,
      ⟨some 12, .iaddr 4 (.tmp 7) (.tmp 9), none⟩,
      ⟨some 13, .load (.tmp 12) 4 true .plain, none⟩,
      ⟨some 6, .alloc [.str ⟨#[]⟩, .str ⟨#[]⟩, .int .i64 0, .int .i64 0], none⟩,
      ⟨some 5, .mov (.tmp 11), none⟩,
      ⟨none, .store (.tmp 6) (.tmp 13) 4, none⟩] [0, 1, 5, 6, 7, 8, 9])
    (.seq (.quiet [
      ⟨some 14, .faddr (.tmp 6) 0, none⟩,
      ⟨some 15, .load (.tmp 14) 1 false .plain, none⟩,
      ⟨some 16, .call 106 [false] [.tmp 15], none⟩,
      ⟨some 17, .un .not (.tmp 16), none⟩,
      ⟨some 18, .mov (.tmp 17), none⟩,
      ⟨some 19, .faddr (.tmp 6) 1, some (18, false)⟩,
      ⟨some 20, .load (.tmp 19) 1 false .plain, some (18, false)⟩,
      ⟨some 21, .call 105 [false] [.tmp 20], some (18, false)⟩,
      ⟨some 22, .un .not (.tmp 21), some (18, false)⟩,
      ⟨some 23, .pick (.tmp 18) (.const (.bool true)) (.tmp 22), none⟩,
      ⟨some 24, .mov (.tmp 23), none⟩,
      ⟨some 25, .mov (.tmp 5), some (24, false)⟩,
      ⟨some 26, .bin .gtr (.tmp 25) (.const (.int .i64 0)), some (24, false)⟩,
      ⟨some 27, .mov (.tmp 26), some (24, false)⟩,
      ⟨some 28, .mov (.tmp 0), some (27, true)⟩,
      ⟨some 29, .mov (.tmp 5), some (27, true)⟩,
      ⟨some 30, .bin .sub (.tmp 29) (.const (.int .i64 1)), some (27, true)⟩,
      ⟨some 31, .iaddr 4 (.tmp 28) (.tmp 30), some (27, true)⟩,
      ⟨some 32, .faddr (.tmp 31) 0, some (27, true)⟩,
      ⟨some 33, .load (.tmp 32) 1 false .plain, some (27, true)⟩,
      ⟨some 34, .faddr (.tmp 6) 0, some (27, true)⟩,
      ⟨some 35, .load (.tmp 34) 1 false .plain, some (27, true)⟩,
      ⟨some 36, .bin .geq (.tmp 33) (.tmp 35), some (27, true)⟩,
      ⟨some 37, .pick (.tmp 27) (.tmp 36) (.const (.bool false)), some (24, false)⟩,
      ⟨some 38, .pick (.tmp 24) (.const (.bool true)) (.tmp 37), none⟩,
      ⟨some 39, .mov (.tmp 38), none⟩,
      ⟨some 40, .faddr (.tmp 6) 2, some (39, false)⟩,
      ⟨some 41, .load (.tmp 40) 1 false .plain, some (39, false)⟩,
      ⟨some 42, .bin .lss (.tmp 41) (.const (.int .i64 0)), some (39, false)⟩,
      ⟨some 43, .pick (.tmp 39) (.const (.bool true)) (.tmp 42), none⟩,
      ⟨some 44, .mov (.tmp 43), none⟩,
      ⟨some 45, .faddr (.tmp 6) 2, some (44, false)⟩,
      ⟨some 46, .load (.tmp 45) 1 false .plain, some (44, false)⟩,
      ⟨some 47, .faddr (.tmp 6) 3, some (44, false)⟩,
      ⟨some 48, .load (.tmp 47) 1 false .plain, some (44, false)⟩,
      ⟨some 49, .bin .gtr (.tmp 46) (.tmp 48), some (44, false)⟩,
      ⟨some 50, .pick (.tmp 44) (.const (.bool true)) (.tmp 49), none⟩,
      ⟨some 51, .mov (.tmp 50), none⟩,
      ⟨some 52, .faddr (.tmp 6) 3, some (51, false)⟩,
      ⟨some 53, .load (.tmp 52) 1 false .plain, some (51, false)⟩,
      ⟨some 54, .mov (.tmp 1), some (51, false)⟩,
      ⟨some 55, .bin .gtr (.tmp 53) (.tmp 54), some (51, false)⟩,
      ⟨some 56, .pick (.tmp 51) (.const (.bool true)) (.tmp 55), none⟩] [0, 1, 7, 8, 9, 56])
    (.cond (.tmp 56)
      (.seq (.region [
        ⟨some 4, .mov (.const (.bool false)), none⟩] [4])
      .ret)
      .skip))))
  (.region [
    ⟨some 57, .bin .add (.tmp 9) (.const (.int .i64 1)), none⟩,
    ⟨some 9, .mov (.tmp 57), none⟩] [0, 1, 7, 8, 9]))))
def c114 : CFn := ⟨61, [.tmp 4],
  (.seq (.region [
    ⟨some 4, .mov (.const (.bool false)), none⟩] [0, 1])
  (.seq (.seq (.region [
    ⟨some 7, .mov (.tmp 0), none⟩,
    ⟨some 8, .len false (.tmp 7), none⟩,
    ⟨some 9, .mov (.const (.int .i64 0)), none⟩] [0, 1, 7, 8, 9])
  (.block 0
    (.loop [0, 1, 7, 8, 9] c114b0)))
  (.seq (.region [
    ⟨some 58, .mov (.tmp 0), none⟩,
    ⟨some 59, .len false (.tmp 58), none⟩,
    ⟨some 60, .bin .leq (.tmp 59) (.const (.int .i64 40)), none⟩,
    ⟨some 4, .mov (.tmp 60), none⟩] [4])
  .ret)))⟩
-- laws.eqMateAskS
def c115b0 : CCode := (.seq (.seq (.region [
    ⟨some 11, .mov (.tmp 5), none⟩,
    ⟨some 12, .mov (.tmp 0), none⟩,
    ⟨some 13, .len false (.tmp 12), none⟩,
    ⟨some 14, .bin .lss (.tmp 11) (.tmp 13), none⟩] [0, 1, 5, 14])
  (.cond (.tmp 14)
    .skip
    (.exit 0)))
  (.seq (.block 1
    (.seq (.quiet [
      ⟨some 17, .mov (.tmp 0), none⟩,
      ⟨some 18, .mov (.tmp 5), none⟩,
      ⟨some 19, .iaddr 4 (.tmp 17) (.tmp 18), none⟩,
      ⟨some 20, .load (.tmp 19) 4 true .plain, none⟩,
      ⟨some 21, .mov (.tmp 1), none⟩,
      ⟨some 22, .mov (.tmp 5), none⟩,
      ⟨some 23, .iaddr 4 (.tmp 21) (.tmp 22), none⟩,
      ⟨some 24, .load (.tmp 23) 4 true .plain, none⟩,
      ⟨some 25, .call 154 [false, false] [.tmp 20, .tmp 24], none⟩,
      ⟨some 26, .un .not (.tmp 25), none⟩] [0, 1, 5, 26])
    (.cond (.tmp 26)
      (.seq (.region [
        ⟨some 4, .mov (.const (.bool false)), none⟩] [4])
      .ret)
      .skip)))
  (.region [
    ⟨some 15, .mov (.tmp 5), none⟩,
    ⟨some 16, .bin .add (.tmp 15) (.const (.int .i64 1)), none⟩,
    ⟨some 5, .mov (.tmp 16), none⟩] [0, 1, 5])))
def c115 : CFn := ⟨27, [.tmp 4],
  (.seq (.region [
    ⟨some 4, .mov (.const (.bool false)), none⟩] [0, 1])
  (.seq (.seq (.region [
    ⟨some 6, .mov (.tmp 0), none⟩,
    ⟨some 7, .len false (.tmp 6), none⟩,
    ⟨some 8, .mov (.tmp 1), none⟩,
    ⟨some 9, .len false (.tmp 8), none⟩,
    ⟨some 10, .bin .neq (.tmp 7) (.tmp 9), none⟩] [0, 1, 10])
  (.cond (.tmp 10)
    (.seq (.region [
      ⟨some 4, .mov (.const (.bool false)), none⟩] [4])
    .ret)
    .skip))
  (.seq (.seq (.region [
    ⟨some 5, .mov (.const (.int .i64 0)), none⟩] [0, 1, 5])
  (.block 0
    (.loop [0, 1, 5] c115b0)))
  (.seq (.region [
    ⟨some 4, .mov (.const (.bool true)), none⟩] [4])
  .ret))))⟩
-- impl.copyMate
def c117 : CFn := ⟨20, [.cell 2 9 true],
  (.seq (.region [
    ⟨some 1, .box (.tmp 0), none⟩,
    ⟨some 2, .alloc [.str ⟨#[]⟩, .bool false, .int .i64 0, .bool false, .int .i64 0, .sl .own 7 [], .sl .own 11 [], .sl .own 4 [], .sl .own 4 []], none⟩] [1, 2])
  (.seq (.region [
    ⟨some 3, .faddr (.tmp 1) 5, none⟩,
    ⟨some 4, .load (.tmp 3) 1 false .plain, none⟩,
    ⟨some 5, .append 7 72 true (.const (.sl .own 7 [])) (.tmp 4), none⟩,
    ⟨some 6, .faddr (.tmp 1) 5, none⟩,
    ⟨none, .store (.tmp 6) (.tmp 5) 1, none⟩] [1, 2])
  (.seq (.region [
    ⟨some 7, .faddr (.tmp 1) 6, none⟩,
    ⟨some 8, .load (.tmp 7) 1 false .plain, none⟩,
    ⟨some 9, .append 11 104 true (.const (.sl .own 11 [])) (.tmp 8), none⟩,
    ⟨some 10, .faddr (.tmp 1) 6, none⟩,
    ⟨none, .store (.tmp 10) (.tmp 9) 1, none⟩] [1, 2])
  (.seq (.region [
    ⟨some 11, .faddr (.tmp 1) 7, none⟩,
    ⟨some 12, .load (.tmp 11) 1 false .plain, none⟩,
    ⟨some 13, .append 4 48 true (.const (.sl .own 4 [])) (.tmp 12), none⟩,
    ⟨some 14, .faddr (.tmp 1) 7, none⟩,
    ⟨none, .store (.tmp 14) (.tmp 13) 1, none⟩] [1, 2])
  (.seq (.region [
    ⟨some 15, .faddr (.tmp 1) 8, none⟩,
    ⟨some 16, .load (.tmp 15) 1 false .plain, none⟩,
    ⟨some 17, .append 4 48 true (.const (.sl .own 4 [])) (.tmp 16), none⟩,
    ⟨some 18, .faddr (.tmp 1) 8, none⟩,
    ⟨none, .store (.tmp 18) (.tmp 17) 1, none⟩] [1, 2])
  (.seq (.region [
    ⟨some 19, .load (.tmp 1) 9 true .plain, none⟩,
    ⟨none, .store (.tmp 2) (.tmp 19) 9, none⟩] [2])
  .ret))))))⟩
-- spec.l4Copy
def c120 : CFn := ⟨24, [.cell 2 9 true],
  (.seq (.region [
    ⟨some 1, .box (.tmp 0), none⟩,
    ⟨some 2, .alloc [.str ⟨#[]⟩, .bool false, .int .i64 0, .bool false, .int .i64 0, .sl .own 7 [], .sl .own 11 [], .sl .own 4 [], .sl .own 4 []], none⟩] [1, 2])
  (.seq (.region [
    ⟨some 3, .bslice 7 [.str ⟨#[]⟩, .int .i64 0, .str ⟨#[]⟩, .int .i64 0, .int .i64 0, .int .i64 0, .int .i64 0] 0 [], none⟩,
    ⟨some 4, .faddr (.tmp 1) 5, none⟩,
    ⟨some 5, .load (.tmp 4) 1 false .plain, none⟩,
    ⟨some 6, .append 7 72 true (.tmp 3) (.tmp 5), none⟩,
    ⟨some 7, .faddr (.tmp 1) 5, none⟩,
    ⟨none, .store (.tmp 7) (.tmp 6) 1, none⟩] [1, 2])
  (.seq (.region [
    ⟨some 8, .bslice 11 [.str ⟨#[]⟩, .int .i64 0, .str ⟨#[]⟩, .int .i64 0, .int .i64 0, .int .i64 0, .int .i64 0, .int .i64 0, .int .i64 0, .int .i64 0, .int .i64 0] 0 [], none⟩,
    ⟨some 9, .faddr (.tmp 1) 6, none⟩,
    ⟨some 10, .load (.tmp 9) 1 false .plain, none⟩,
    ⟨some 11, .append 11 104 true (.tmp 8) (.tmp 10), none⟩,
    ⟨some 12, .faddr (.tmp 1) 6, none⟩,
    ⟨none, .store (.tmp 12) (.tmp 11) 1, none⟩] [1, 2])
  (.seq (.region [
    ⟨some 13, .bslice 4 [.str ⟨#[]⟩, .str ⟨#[]⟩, .int .i64 0, .int .i64 0] 0 [], none⟩,
    ⟨some 14, .faddr (.tmp 1) 7, none⟩,
    ⟨some 15, .load (.tmp 14) 1 false .plain, none⟩,
    ⟨some 16, .append 4 48 true (.tmp 13) (.tmp 15), none⟩,
    ⟨some 17, .faddr (.tmp 1) 7, none⟩,
    ⟨none, .store (.tmp 17) (.tmp 16) 1, none⟩] [1, 2])
  (.seq (.region [
    ⟨some 18, .bslice 4 [.str ⟨#[]⟩, .str ⟨#[]⟩, .int .i64 0, .int .i64 0] 0 [], none⟩,
    ⟨some 19, .faddr (.tmp 1) 8, none⟩,
    ⟨some 20, .load (.tmp 19) 1 false .plain, none⟩,
    ⟨some 21, .append 4 48 true (.tmp 18) (.tmp 20), none⟩,
    ⟨some 22, .faddr (.tmp 1) 8, none⟩,
    ⟨none, .store (.tmp 22) (.tmp 21) 1, none⟩] [1, 2])
  (.seq (.region [
    ⟨some 23, .load (.tmp 1) 9 true .plain, none⟩,
    ⟨none, .store (.tmp 2) (.tmp 23) 9, none⟩] [2])
  .ret))))))⟩
-- laws.heldMateWantS
def c127b0 : CCode := (.seq (.seq (.region [
    ⟨some 6, .mov (.tmp 5), none⟩,
    ⟨some 7, .mov (.tmp 0), none⟩,
    ⟨some 8, .len false (.tmp 7), none⟩,
    ⟨some 9, .bin .lss (.tmp 6) (.tmp 8), none⟩] [0, 1, 5, 9])
  (.cond (.tmp 9)
    .skip
    (.exit 0)))
  (.seq (.block 1
    (.seq (.seq (.quiet [
      ⟨some 12, .mov (.tmp 0), none⟩,
      ⟨some 13, .mov (.tmp 5), none⟩,
      ⟨some 14, .iaddr 7 (.tmp 12) (.tmp 13), none⟩,
      ⟨some 15, .faddr (.tmp 14) 0, none⟩,
      ⟨some 16, .load (.tmp 15) 1 false .plain, none⟩,
      ⟨some 17, .mov (.tmp 1), none⟩,
      ⟨some 18, .call 96 [false] [.tmp 17], none⟩,
      ⟨some 19, .bin .neq (.tmp 16) (.tmp 18), none⟩] [0, 1, 5, 19])
    (.cond (.tmp 19)
      (.seq (.region [
        ⟨some 4, .mov (.const (.int .i64 (-1))), none⟩] [4])
      .ret)
      .skip))
    (.seq (.region [
      ⟨some 20, .mov (.tmp 1), none⟩,
      ⟨some 21, .bin .add (.tmp 20) (.const (.int .i64 1)), none⟩,
      ⟨some 1, .mov (.tmp 21), none⟩] [0, 1, 5])
    (.seq (.seq (.region [
      ⟨some 22, .mov (.tmp 0), none⟩,
      ⟨some 23, .mov (.tmp 5), none⟩,
      ⟨some 24, .iaddr 7 (.tmp 22) (.tmp 23), none⟩,
      ⟨some 25, .faddr (.tmp 24) 1, none⟩,
      ⟨some 26, .load (.tmp 25) 1 false .plain, none⟩,
      ⟨some 27, .mov (.tmp 1), none⟩,
      ⟨some 28, .bin .neq (.tmp 26) (.tmp 27), none⟩] [0, 1, 5, 28])
    (.cond (.tmp 28)
      (.seq (.region [
        ⟨some 4, .mov (.const (.int .i64 (-1))), none⟩] [4])
      .ret)
      .skip))
    (.seq (.region [
      ⟨some 29, .mov (.tmp 1), none⟩,
      ⟨some 30, .bin .add (.tmp 29) (.const (.int .i64 1)), none⟩,
      ⟨some 1, .mov (.tmp 30), none⟩] [0, 1, 5])
    (.seq (.seq (.quiet [
      ⟨some 31, .mov (.tmp 0), none⟩,
      ⟨some 32, .mov (.tmp 5), none⟩,
      ⟨some 33, .iaddr 7 (.tmp 31) (.tmp 32), none⟩,
      ⟨some 34, .faddr (.tmp 33) 2, none⟩,
      ⟨some 35, .load (.tmp 34) 1 false .plain, none⟩,
      ⟨some 36, .mov (.tmp 1), none⟩,
      ⟨some 37, .call 96 [false] [.tmp 36], none⟩,
      ⟨some 38, .bin .neq (.tmp 35) (.tmp 37), none⟩] [0, 1, 5, 38])
    (.cond (.tmp 38)
      (.seq (.region [
        ⟨some 4, .mov (.const (.int .i64 (-1))), none⟩] [4])
      .ret)
      .skip))
    (.seq (.region [
      ⟨some 39, .mov (.tmp 1), none⟩,
      ⟨some 40, .bin .add (.tmp 39) (.const (.int .i64 1)), none⟩,
      ⟨some 1, .mov (.tmp 40), none⟩] [0, 1, 5])
    (.seq (.seq (.region [
      ⟨some 41, .mov (.tmp 0), none⟩,
      ⟨some 42, .mov (.tmp 5), none⟩,
      ⟨some 43, .iaddr 7 (.tmp 41) (.tmp 42), none⟩,
      ⟨some 44, .faddr (.tmp 43) 3, none⟩,
      ⟨some 45, .load (.tmp 44) 1 false .plain, none⟩,
      ⟨some 46, .mov (.tmp 1), none⟩,
      ⟨some 47, .bin .neq (.tmp 45) (.tmp 46), none⟩] [0, 1, 5, 47])
    (.cond (.tmp 47)
      (.seq (.region [
        ⟨some 4, .mov (.const (.int .i64 (-1))), none⟩] [4])
      .ret)
      .skip))
    (.seq (.region [
      ⟨some 48, .mov (.tmp 1), none⟩,
      ⟨some 49, .bin .add (.tmp 48) (.const (.int .i64 1)), none⟩,
      ⟨some 1, .mov (.tmp 49), none⟩] [0, 1, 5])
    (.seq (.seq (.region [
      ⟨some 50, .mov (.tmp 0), none⟩,
      ⟨some 51, .mov (.tmp 5), none⟩,
      ⟨some 52, .iaddr 7 (.tmp 50) (.tmp 51), none⟩,
      ⟨some 53, .faddr (.tmp 52) 4, none⟩,
      ⟨some 54, .load (.tmp 53) 1 false .plain, none⟩,
      ⟨some 55, .mov (.tmp 1), none⟩,
      ⟨some 56, .bin .neq (.tmp 54) (.tmp 55), none⟩] [0, 1, 5, 56])
    (.cond (.tmp 56)
      (.seq (.region [
        ⟨some 4, .mov (.const (.int .i64 (-1))), none⟩] [4])
      .ret)
      .skip))
    (.seq (.region [
      ⟨some 57, .mov (.tmp 1), none⟩,
      ⟨some 58, .bin .add (.tmp 57) (.const (.int .i64 1)), none⟩,
      ⟨some 1, .mov (.tmp 58), none⟩] [0, 1, 5])
    (.seq (.seq (.region [
      ⟨some 59, .mov (.tmp 0), none⟩,
      ⟨some 60, .mov (.tmp 5), none⟩,
      ⟨some 61, .iaddr 7 (.tmp 59) (.tmp 60), none⟩,
      ⟨some 62, .faddr (.tmp 61) 5, none⟩,
      ⟨some 63, .load (.tmp 62) 1 false .plain, none⟩,
      ⟨some 64, .mov (.tmp 1), none⟩,
      ⟨some 65, .bin .neq (.tmp 63) (.tmp 64), none⟩] [0, 1, 5, 65])
    (.cond (.tmp 65)
      (.seq (.region [
        ⟨some 4, .mov (.const (.int .i64 (-1))), none⟩] [4])
      .ret)
      .skip))
    (.seq (.region [
      ⟨some 66, .mov (.tmp 1), none⟩,
      ⟨some 67, .bin .add (.tmp 66) (.const (.int .i64 1)), none⟩,
      ⟨some 1, .mov (.tmp 67), none⟩] [0, 1, 5])
    (.seq (.seq (.region [
      ⟨some 68, .mov (.tmp 0), none⟩,
      ⟨some 69, .mov (.tmp 5), none⟩,
      ⟨some 70, .iaddr 7 (.tmp 68) (.tmp 69), none⟩,
      ⟨some 71, .faddr (.tmp 70) 6, none⟩,
      ⟨some 72, .load (.tmp 71) 1 false .plain, none⟩,
      ⟨some 73, .mov (.tmp 1), none⟩,
      ⟨some 74, .bin .neq (.tmp 72) (.tmp 73), none⟩] [0, 1, 5, 74])
    (.cond (.tmp 74)
      (.seq (.region [
        ⟨some 4, .mov (.const (.int .i64 (-1))), none⟩] [4])
      .ret)
      .skip))
    (.region [
      ⟨some 75, .mov (.tmp 1), none⟩,
      ⟨some 76, .bin .add (.tmp 75) (.const (.int .i64 1)), none⟩,
      ⟨some 1, .mov (.tmp 76), none⟩] [0, 1, 5])))))))))))))))
  (.region [
    ⟨some 10, .mov (.tmp 5), none⟩,
    ⟨some 11, .bin .add (.tmp 10) (.const (.int .i64 1)), none⟩,
    ⟨some 5, .mov (.tmp 11), none⟩] [0, 1, 5])))
def c127 : CFn := ⟨78, [.tmp 4],
  (.seq (.region [
    ⟨some 4, .mov (.const (.int .i64 0)), none⟩] [0, 1])
  (.seq (.seq (.region [
    ⟨some 5, .mov (.const (.int .i64 0)), none⟩] [0, 1, 5])
  (.block 0
    (.loop [0, 1, 5] c127b0)))
  (.seq (.region [
    ⟨some 77, .mov (.tmp 1), none⟩,
    ⟨some 4, .mov (.tmp 77), none⟩] [4])
  .ret)))⟩
-- laws.markMateAskS
def c128b0 : CCode := (.seq (.seq (.region [
    ⟨some 6, .mov (.tmp 5), none⟩,
    ⟨some 7, .mov (.tmp 0), none⟩,
    ⟨some 8, .len false (.tmp 7), none⟩,
    ⟨some 9, .bin .lss (.tmp 6) (.tmp 8), none⟩] [0, 1, 5, 9])
  (.cond (.tmp 9)
    .skip
    (.exit 0)))
  (.seq (.block 1
    (.seq (.region [
      ⟨some 12, .mov (.tmp 0), none⟩,
      ⟨some 13, .mov (.tmp 5), none⟩,
      ⟨some 14, .mov (.tmp 1), none⟩,
      ⟨some 15, .call 96 [false] [.tmp 14], none⟩,
      ⟨some 16, .iaddr 4 (.tmp 12) (.tmp 13), none⟩,
      ⟨some 17, .faddr (.tmp 16) 0, none⟩,
      ⟨none, .store (.tmp 17) (.tmp 15) 1, none⟩] [0, 1, 5])
    (.seq (.region [
      ⟨some 18, .mov (.tmp 1), none⟩,
      ⟨some 19, .bin .add (.tmp 18) (.const (.int .i64 1)), none⟩,
      ⟨some 1, .mov (.tmp 19), none⟩] [0, 1, 5])
    (.seq (.region [
      ⟨some 20, .mov (.tmp 0), none⟩,
      ⟨some 21, .mov (.tmp 5), none⟩,
      ⟨some 22, .mov (.tmp 1), none⟩,
      ⟨some 23, .call 96 [false] [.tmp 22], none⟩,
      ⟨some 24, .iaddr 4 (.tmp 20) (.tmp 21), none⟩,
      ⟨some 25, .faddr (.tmp 24) 1, none⟩,
      ⟨none, .store (.tmp 25) (.tmp 23) 1, none⟩] [0, 1, 5])
    (.seq (.region [
      ⟨some 26, .mov (.tmp 1), none⟩,
      ⟨some 27, .bin .add (.tmp 26) (.const (.int .i64 1)), none⟩,
      ⟨some 1, .mov (.tmp 27), none⟩] [0, 1, 5])
    (.seq (.region [
      ⟨some 28, .mov (.tmp 0), none⟩,
      ⟨some 29, .mov (.tmp 5), none⟩,
      ⟨some 30, .mov (.tmp 1), none⟩,
      ⟨some 31, .iaddr 4 (.tmp 28) (.tmp 29), none⟩,
      ⟨some 32, .faddr (.tmp 31) 2, none⟩,
      ⟨none, .store (.tmp 32) (.tmp 30) 1, none⟩] [0, 1, 5])
    (.seq (.region [
      ⟨some 33, .mov (.tmp 1), none⟩,
      ⟨some 34, .bin .add (.tmp 33) (.const (.int .i64 1)), none⟩,
      ⟨some 1, .mov (.tmp 34), none⟩] [0, 1, 5])
    (.seq (.region [
      ⟨some 35, .mov (.tmp 0), none⟩,
      ⟨some 36, .mov (.tmp 5), none⟩,
      ⟨some 37, .mov (.tmp 1), none⟩,
      ⟨some 38, .iaddr 4 (.tmp 35) (.tmp 36), none⟩,
      ⟨some 39, .faddr (.tmp 38) 3, none⟩,
      ⟨none, .store (.tmp 39) (.tmp 37) 1, none⟩] [0, 1, 5])
    (.region [
      ⟨some 40, .mov (.tmp 1), none⟩,
      ⟨some 41, .bin .add (.tmp 40) (.const (.int .i64 1)), none⟩,
      ⟨some 1, .mov (.tmp 41), none⟩] [0, 1, 5])))))))))
  (.region [
    ⟨some 10, .mov (.tmp 5), none⟩,
    ⟨some 11, .bin .add (.tmp 10) (.const (.int .i64 1)), none⟩,
    ⟨some 5, .mov (.tmp 11), none⟩] [0, 1, 5])))
def c128 : CFn := ⟨43, [.tmp 4],
  (.seq (.region [
    ⟨some 4, .mov (.const (.int .i64 0)), none⟩] [0, 1])
  (.seq (.seq (.region [
    ⟨some 5, .mov (.const (.int .i64 0)), none⟩] [0, 1, 5])
  (.block 0
    (.loop [0, 1, 5] c128b0)))
  (.seq (.region [
    ⟨some 42, .mov (.tmp 1), none⟩,
    ⟨some 4, .mov (.tmp 42), none⟩] [4])
  .ret)))⟩
-- laws.heldMateAskS
def c129b0 : CCode := (.seq (.seq (.region [
    ⟨some 6, .mov (.tmp 5), none⟩,
    ⟨some 7, .mov (.tmp 0), none⟩,
    ⟨some 8, .len false (.tmp 7), none⟩,
    ⟨some 9, .bin .lss (.tmp 6) (.tmp 8), none⟩] [0, 1, 5, 9])
  (.cond (.tmp 9)
    .skip
    (.exit 0)))
  (.seq (.block 1
    (.seq (.seq (.quiet [
      ⟨some 12, .mov (.tmp 0), none⟩,
      ⟨some 13, .mov (.tmp 5), none⟩,
      ⟨some 14, .iaddr 4 (.tmp 12) (.tmp 13), none⟩,
      ⟨some 15, .faddr (.tmp 14) 0, none⟩,
      ⟨some 16, .load (.tmp 15) 1 false .plain, none⟩,
      ⟨some 17, .mov (.tmp 1), none⟩,
      ⟨some 18, .call 96 [false] [.tmp 17], none⟩,
      ⟨some 19, .bin .neq (.tmp 16) (.tmp 18), none⟩] [0, 1, 5, 19])
    (.cond (.tmp 19)
      (.seq (.region [
        ⟨some 4, .mov (.const (.int .i64 (-1))), none⟩] [4])
      .ret)
      .skip))
    (.seq (.region [
      ⟨some 20, .mov (.tmp 1), none⟩,
      ⟨some 21, .bin .add (.tmp 20) (.const (.int .i64 1)), none⟩,
      ⟨some 1, .mov (.tmp 21), none⟩] [0, 1, 5])
    (.seq (.seq (.quiet [
      ⟨some 22, .mov (.tmp 0), none⟩,
      ⟨some 23, .mov (.tmp 5), none⟩,
      ⟨some 24, .iaddr 4 (.tmp 22) (.tmp 23), none⟩,
      ⟨some 25, .faddr (.tmp 24) 1, none⟩,
      ⟨some 26, .load (.tmp 25) 1 false .plain, none⟩,
      ⟨some 27, .mov (.tmp 1), none⟩,
      ⟨some 28, .call 96 [false] [.tmp 27], none⟩,
      ⟨some 29, .bin .neq (.tmp 26) (.tmp 28), none⟩] [0, 1, 5, 29])
    (.cond (.tmp 29)
      (.seq (.region [
        ⟨some 4, .mov (.const (.int .i64 (-1))), none⟩] [4])
      .ret)
      .skip))
    (.seq (.region [
      ⟨some 30, .mov (.tmp 1), none⟩,
      ⟨some 31, .bin .add (.tmp 30) (.const (.int .i64 1)), none⟩,
      ⟨some 1, .mov (.tmp 31), none⟩] [0, 1, 5])
    (.seq (.seq (.region [
      ⟨some 32, .mov (.tmp 0), none⟩,
      ⟨some 33, .mov (.tmp 5), none⟩,
      ⟨some 34, .iaddr 4 (.tmp 32) (.tmp 33), none⟩,
      ⟨some 35, .faddr (.tmp 34) 2, none⟩,
      ⟨some 36, .load (.tmp 35) 1 false .plain, none⟩,
      ⟨some 37, .mov (.tmp 1), none⟩,
      ⟨some 38, .bin .neq (.tmp 36) (.tmp 37), none⟩] [0, 1, 5, 38])
    (.cond (.tmp 38)
      (.seq (.region [
        ⟨some 4, .mov (.const (.int .i64 (-1))), none⟩] [4])
      .ret)
      .skip))
    (.seq (.region [
      ⟨some 39, .mov (.tmp 1), none⟩,
      ⟨some 40, .bin .add (.tmp 39) (.const (.int .i64 1)), none⟩,
      ⟨some 1, .mov (.tmp 40), none⟩] [0, 1, 5])
    (.seq (.seq (.region [
      ⟨some 41, .mov (.tmp 0), none⟩,
      ⟨some 42, .mov (.tmp 5), none⟩,
      ⟨some 43, .iaddr 4 (.tmp 41) (.tmp 42), none⟩,
      ⟨some 44, .faddr (.tmp 43) 3, none⟩,
      ⟨some 45, .load (.tmp 44) 1 false .plain, none⟩,
      ⟨some 46, .mov (.tmp 1), none⟩,
      ⟨some 47, .bin .neq (.tmp 45) (.tmp 46), none⟩] [0, 1, 5, 47])
    (.cond (.tmp 47)
      (.seq (.region [
        ⟨some 4, .mov (.const (.int .i64 (-1))), none⟩] [4])
      .ret)
      .skip))
    (.region [
      ⟨some 48, .mov (.tmp 1), none⟩,
      ⟨some 49, .bin .add (.tmp 48) (.const (.int .i64 1)), none⟩,
      ⟨some 1, .mov (.tmp 49), none⟩] [0, 1, 5])))))))))
  (.region [
    ⟨some 10, .mov (.tmp 5), none⟩,
    ⟨some 11, .bin .add (.tmp 10) (.const (.int .i64 1)), none⟩,
    ⟨some 5, .mov (.tmp 11), none⟩] [0, 1, 5])))
def c129 : CFn := ⟨51, [.tmp 4],
  (.seq (.region [
    ⟨some 4, .mov (.const (.int .i64 0)), none⟩] [0, 1])
  (.seq (.seq (.region [
    ⟨some 5, .mov (.const (.int .i64 0)), none⟩] [0, 1, 5])
  (.block 0
    (.loop [0, 1, 5] c129b0)))
  (.seq (.region [
    ⟨some 50, .mov (.tmp 1), none⟩,
    ⟨some 4, .mov (.tmp 50), none⟩] [4])
  .ret)))⟩
-- spec.l4Drop
def c136b0 : CCode := (.seq (.seq (.region [
    ⟨some 8, .mov (.tmp 6), none⟩,
    ⟨some 9, .mov (.tmp 0), none⟩,
    ⟨some 10, .len false (.tmp 9), none⟩,
    ⟨some 11, .bin .lss (.tmp 8) (.tmp 10), none⟩] [0, 1, 5, 6, 11])
  (.cond (.tmp 11)
    .skip
    (.exit 0)))
  (.seq (.block 1
    (.seq (.region [
      ⟨some 14, .mov (.tmp 0), none⟩,
      ⟨some 15, .mov (.tmp 6), none⟩,
      ⟨some 16, .iaddr 4 (.tmp 14) (.tmp 15), none⟩,
      ⟨some 17, .faddr (.tmp 16) 0, none⟩,
      ⟨some 18, .load (.tmp 17) 1 false .plain, none⟩,
      ⟨some 19, .mov (.tmp 1), none⟩,
      ⟨some 20, .bin .neq (.tmp 18) (.tmp 19), none⟩] [0, 1, 5, 6, 20])
    (.cond (.tmp 20)
      (.region [
        ⟨some 21, .mov (.tmp 5), none⟩,
        ⟨some 22, .mov (.tmp 0), none⟩,
        ⟨some 23, .mov (.tmp 6), none⟩,
        ⟨some 24, .iaddr 4 (.tmp 22) (.tmp 23), none⟩,
        ⟨some 25, .load (.tmp 24) 4 true .plain, none⟩,
        ⟨some 26, .bslice 4 [.str ⟨#[]⟩, .str ⟨#[]⟩, .int .i64 0, .int .i64 0] 1 [(0, .tmp 25)], none⟩,
        ⟨some 27, .append 4 48 true (.tmp 21) (.tmp 26), none⟩,
        ⟨some 5, .mov (.tmp 27), none⟩] [0, 1, 5, 6])
      .skip)))
  (.region [
    ⟨some 12, .mov (.tmp 6), none⟩,
    ⟨some 13, .bin .add (.tmp 12) (.const (.int .i64 1)), none⟩,
    ⟨some 6, .mov (.tmp 13), none⟩] [0, 1, 5, 6])))
def c136 : CFn := ⟨29, [.tmp 4],
  (.seq (.region [
    ⟨some 4, .mov (.const (.sl .own 4 [])), none⟩] [0, 1])
  (.seq (.region [
    ⟨some 7, .bslice 4 [.str ⟨#[]⟩, .str ⟨#[]⟩, .int .i64 0, .int .i64 0] 0 [], none⟩,
    ⟨some 5, .mov (.tmp 7), none⟩] [0, 1, 5])
  (.seq (.seq (.region [
    ⟨some 6, .mov (.const (.int .i64 0)), none⟩] [0, 1, 5, 6])
  (.block 0
    (.loop [0, 1, 5, 6] c136b0)))
  (.seq (.region [
    ⟨some 28, .mov (.tmp 5), none⟩,
    ⟨some 4, .mov (.tmp 28), none⟩] [4])
  .ret))))⟩
-- impl.dropAsk
def c137 : CFn := ⟨14, [.tmp 4],
  (.seq (.region [
    ⟨some 4, .mov (.const (.sl .own 4 [])), none⟩] [0, 1])
  (.seq (.loud [
    ⟨some 5, .mov (.tmp 0), none⟩,
    ⟨some 6, .mov (.tmp 1), none⟩,
    ⟨some 7, .slice 4 (.tmp 5) none (some (.tmp 6)), none⟩,
    ⟨some 8, .append 4 48 true (.const (.sl .own 4 [])) (.tmp 7), none⟩,
    ⟨some 9, .mov (.tmp 0), none⟩,
    ⟨some 10, .mov (.tmp 1), none⟩,
    ⟨some 11, .bin .add (.tmp 10) (.const (.int .i64 1)), none⟩,
    ⟨some 12, .slice 4 (.tmp 9) (some (.tmp 11)) none, none⟩,
    ⟨some 13, .append 4 48 true (.tmp 8) (.tmp 12), none⟩,
    ⟨some 4, .mov (.tmp 13), none⟩] [0, 0, 3, 7, 0, 0, 32, 112, 255, 511] [4])
  .ret))⟩
-- laws.szMateAsk
def c152 : CFn := ⟨20, [.tmp 4],
  (.seq (.region [
    ⟨some 2, .box (.tmp 0), none⟩,
    ⟨some 4, .mov (.const (.int .i64 0)), none⟩] [1, 2])
  (.seq (.region [
    ⟨some 5, .mov (.tmp 1), none⟩,
    ⟨some 6, .faddr (.tmp 2) 0, none⟩,
    ⟨some 7, .load (.tmp 6) 1 false .plain, none⟩,
    ⟨some 8, .len true (.tmp 7), none⟩,
    ⟨some 9, .bin .sub (.tmp 5) (.tmp 8), none⟩,
    ⟨some 1, .mov (.tmp 9), none⟩] [1, 2])
  (.seq (.seq (.region [
    ⟨some 10, .mov (.tmp 1), none⟩,
    ⟨some 11, .bin .lss (.tmp 10) (.const (.int .i64 0)), none⟩] [1, 2, 11])
  (.cond (.tmp 11)
    (.seq (.region [
      ⟨some 4, .mov (.const (.int .i64 (-1))), none⟩] [4])
    .ret)
    .skip))
  (.seq (.region [
    ⟨some 12, .mov (.tmp 1), none⟩,
    ⟨some 13, .faddr (.tmp 2) 1, none⟩,
    ⟨some 14, .load (.tmp 13) 1 false .plain, none⟩,
    ⟨some 15, .len true (.tmp 14), none⟩,
    ⟨some 16, .bin .sub (.tmp 12) (.tmp 15), none⟩,
    ⟨some 1, .mov (.tmp 16), none⟩] [1])
  (.seq (.seq (.region [
    ⟨some 17, .mov (.tmp 1), none⟩,
    ⟨some 18, .bin .lss (.tmp 17) (.const (.int .i64 0)), none⟩] [1, 18])
  (.cond (.tmp 18)
    (.seq (.region [
      ⟨some 4, .mov (.const (.int .i64 (-1))), none⟩] [4])
    .ret)
    .skip))
  (.seq (.region [
    ⟨some 19, .mov (.tmp 1), none⟩,
    ⟨some 4, .mov (.tmp 19), none⟩] [4])
  .ret))))))⟩
-- laws.toMateAsk
def c153 : CFn := ⟨17, [.cell 2 4 true],
  (.seq (.region [
    ⟨some 1, .box (.tmp 0), none⟩,
    ⟨some 2, .alloc [.str ⟨#[]⟩, .str ⟨#[]⟩, .int .i64 0, .int .i64 0], none⟩] [1, 2])
  (.seq (.region [
    ⟨some 3, .alloc [.str ⟨#[]⟩, .str ⟨#[]⟩, .int .i64 0, .int .i64 0], none⟩] [1, 2, 3])
  (.seq (.region [
    ⟨some 4, .faddr (.tmp 1) 0, none⟩,
    ⟨some 5, .load (.tmp 4) 1 false .plain, none⟩,
    ⟨some 6, .faddr (.tmp 3) 0, none⟩,
    ⟨none, .store (.tmp 6) (.tmp 5) 1, none⟩] [1, 2, 3])
  (.seq (.region [
    ⟨some 7, .faddr (.tmp 1) 1, none⟩,
    ⟨some 8, .load (.tmp 7) 1 false .plain, none⟩,
    ⟨some 9, .faddr (.tmp 3) 1, none⟩,
    ⟨none, .store (.tmp 9) (.tmp 8) 1, none⟩] [1, 2, 3])
  (.seq (.region [
    ⟨some 10, .faddr (.tmp 1) 2, none⟩,
    ⟨some 11, .load (.tmp 10) 1 false .plain, none⟩,
    ⟨some 12, .faddr (.tmp 3) 2, none⟩,
    ⟨none, .store (.tmp 12) (.tmp 11) 1, none⟩] [1, 2, 3])
  (.seq (.region [
    ⟨some 13, .faddr (.tmp 1) 3, none⟩,
    ⟨some 14, .load (.tmp 13) 1 false .plain, none⟩,
    ⟨some 15, .faddr (.tmp 3) 3, none⟩,
    ⟨none, .store (.tmp 15) (.tmp 14) 1, none⟩] [2, 3])
  (.seq (.region [
    ⟨some 16, .load (.tmp 3) 4 true .plain, none⟩,
    ⟨none, .store (.tmp 2) (.tmp 16) 4, none⟩] [2])
  .ret)))))))⟩
-- laws.eqMateAsk
def c154 : CFn := ⟨25, [.tmp 4],
  (.seq (.region [
    ⟨some 2, .box (.tmp 0), none⟩,
    ⟨some 3, .box (.tmp 1), none⟩,
    ⟨some 4, .mov (.const (.bool false)), none⟩] [2, 3])
  (.seq (.seq (.region [
    ⟨some 5, .faddr (.tmp 2) 0, none⟩,
    ⟨some 6, .load (.tmp 5) 1 false .plain, none⟩,
    ⟨some 7, .faddr (.tmp 3) 0, none⟩,
    ⟨some 8, .load (.tmp 7) 1 false .plain, none⟩,
    ⟨some 9, .bin .neq (.tmp 6) (.tmp 8), none⟩] [2, 3, 9])
  (.cond (.tmp 9)
    (.seq (.region [
      ⟨some 4, .mov (.const (.bool false)), none⟩] [4])
    .ret)
    .skip))
  (.seq (.seq (.region [
    ⟨some 10, .faddr (.tmp 2) 1, none⟩,
    ⟨some 11, .load (.tmp 10) 1 false .plain, none⟩,
    ⟨some 12, .faddr (.tmp 3) 1, none⟩,
    ⟨some 13, .load (.tmp 12) 1 false .plain, none⟩,
    ⟨some 14, .bin .neq (.tmp 11) (.tmp 13), none⟩] [2, 3, 14])
  (.cond (.tmp 14)
    (.seq (.region [
      ⟨some 4, .mov (.const (.bool false)), none⟩] [4])
    .ret)
    .skip))
  (.seq (.seq (.region [
    ⟨some 15, .faddr (.tmp 2) 2, none⟩,
    ⟨some 16, .load (.tmp 15) 1 false .plain, none⟩,
    ⟨some 17, .faddr (.tmp 3) 2, none⟩,
    ⟨some 18, .load (.tmp 17) 1 false .plain, none⟩,
    ⟨some 19, .bin .neq (.tmp 16) (.tmp 18), none⟩] [2, 3, 19])
  (.cond (.tmp 19)
    (.seq (.region [
      ⟨some 4, .mov (.const (.bool false)), none⟩] [4])
    .ret)
    .skip))
  (.seq (.seq (.region [
    ⟨some 20, .faddr (.tmp 2) 3, none⟩,
    ⟨some 21, .load (.tmp 20) 1 false .plain, none⟩,
    ⟨some 22, .faddr (.tmp 3) 3, none⟩,
    ⟨some 23, .load (.tmp 22) 1 false .plain, none⟩,
    ⟨some 24, .bin .neq (.tmp 21) (.tmp 23), none⟩] [24])
  (.cond (.tmp 24)
    (.seq (.region [
      ⟨some 4, .mov (.const (.bool false)), none⟩] [4])
    .ret)
    .skip))
  (.seq (.region [
    ⟨some 4, .mov (.const (.bool true)), none⟩] [4])
  .ret))))))⟩
-- laws.FnExactMateTake
def c177 : CFn := ⟨92, [.tmp 4],
  (.seq (.region [
    ⟨some 2, .box (.tmp 0), none⟩,
    ⟨some 3, .box (.tmp 1), none⟩,
    ⟨some 4, .mov (.const (.bool false)), none⟩] [2, 3])
  (.seq (.region [
    ⟨some 5, .mov (.const (.int .i64 1048576)), none⟩] [2, 3, 5])
  (.seq (.region [
    ⟨some 14, .load (.tmp 2) 9 true .plain, none⟩,
    ⟨some 15, .mov (.tmp 5), none⟩,
    ⟨some 16, .call 30 [false, false] [.tmp 14, .tmp 15], none⟩,
    ⟨some 5, .mov (.tmp 16), none⟩] [2, 3, 5])
  (.seq (.seq (.region [
    ⟨some 17, .mov (.tmp 5), none⟩,
    ⟨some 18, .bin .lss (.tmp 17) (.const (.int .i64 0)), none⟩] [2, 3, 5, 18])
  (.cond (.tmp 18)
    (.seq (.region [
      ⟨some 4, .mov (.const (.bool true)), none⟩] [4])
    .ret)
    .skip))
  (.seq (.region [
    ⟨some 19, .load (.tmp 3) 7 true .plain, none⟩,
    ⟨some 20, .mov (.tmp 5), none⟩,
    ⟨some 21, .call 65 [false, false] [.tmp 19, .tmp 20], none⟩,
    ⟨some 5, .mov (.tmp 21), none⟩] [2, 3, 5])
  (.seq (.seq (.region [
    ⟨some 22, .mov (.tmp 5), none⟩,
    ⟨some 23, .bin .lss (.tmp 22) (.const (.int .i64 0)), none⟩] [2, 3, 23])
  (.cond (.tmp 23)
    (.seq (.region [
      ⟨some 4, .mov (.const (.bool true)), none⟩] [4])
    .ret)
    .skip))
  (.seq (.loud [
    ⟨some 24, .load (.tmp 2) 9 true .plain, none⟩,
    ⟨some 25, .call 26 [false] [.tmp 24], none⟩,
    ⟨some 26, .load (.tmp 3) 7 true .plain, none⟩,
    ⟨some 27, .call 60 [false] [.tmp 26], none⟩,
    ⟨some 28, .call 64 [false, false] [.tmp 25, .tmp 27], none⟩,
    ⟨some 6, .alloc [.str ⟨#[]⟩, .bool false, .int .i64 0, .bool false, .int .i64 0, .sl .own 7 [], .sl .own 11 [], .sl .own 4 [], .sl .own 4 []], none⟩,
    ⟨none, .store (.tmp 6) (.tmp 28) 9, none⟩] [0, 1, 0, 7, 15, 0, 63] [2, 3, 6])
  (.seq (.region [
    ⟨some 29, .load (.tmp 2) 9 true .plain, none⟩,
    ⟨some 30, .call 26 [false] [.tmp 29], none⟩,
    ⟨some 7, .alloc [.str ⟨#[]⟩, .bool false, .int .i64 0, .bool false, .int .i64 0, .sl .own 7 [], .sl .own 11 [], .sl .own 4 [], .sl .own 4 []], none⟩,
    ⟨none, .store (.tmp 7) (.tmp 30) 9, none⟩] [2, 3, 6, 7])
  (.seq (.region [
    ⟨some 31, .load (.tmp 3) 7 true .plain, none⟩,
    ⟨some 32, .call 60 [false] [.tmp 31], none⟩,
    ⟨some 8, .alloc [.int .i64 0, .str ⟨#[]⟩, .int .i64 0, .sl .own 7 [], .str ⟨#[]⟩, .str ⟨#[]⟩, .int .i64 0], none⟩,
    ⟨none, .store (.tmp 8) (.tmp 32) 7, none⟩] [2, 3, 6, 7, 8])
  (.seq (.region [
    ⟨some 33, .load (.tmp 7) 9 true .plain, none⟩,
    ⟨some 34, .load (.tmp 8) 7 true .plain, none⟩,
    ⟨some 35, .call 61 [false, false] [.tmp 33, .tmp 34], none⟩,
    ⟨some 9, .alloc [.str ⟨#[]⟩, .bool false, .int .i64 0, .bool false, .int .i64 0, .sl .own 7 [], .sl .own 11 [], .sl .own 4 [], .sl .own 4 []], none⟩,
    ⟨none, .store (.tmp 9) (.tmp 35) 9, none⟩] [2, 3, 6, 7, 8, 9])
  (.seq (.seq (.region [
    ⟨some 36, .load (.tmp 9) 9 true .plain, none⟩,
    ⟨some 37, .load (.tmp 6) 9 true .plain, none⟩,
    ⟨some 38, .call 27 [false, false] [.tmp 36, .tmp 37], none⟩,
    ⟨some 39, .un .not (.tmp 38), none⟩] [2, 3, 6, 7, 8, 9, 39])
  (.cond (.tmp 39)
    (.seq (.region [
      ⟨some 4, .mov (.const (.bool false)), none⟩] [4])
    .ret)
    .skip))
  (.seq (.seq (.loud [
    ⟨some 40, .load (.tmp 7) 9 true .plain, none⟩,
    ⟨some 41, .load (.tmp 2) 9 true .plain, none⟩,
    ⟨some 42, .call 26 [false] [.tmp 41], none⟩,
    ⟨some 43, .call 27 [false, false] [.tmp 40, .tmp 42], none⟩,
    ⟨some 44, .un .not (.tmp 43), none⟩] [0, 0, 2, 7, 15] [2, 3, 6, 7, 8, 9, 44])
  (.cond (.tmp 44)
    (.seq (.region [
      ⟨some 4, .mov (.const (.bool false)), none⟩] [4])
    .ret)
    .skip))
  (.seq (.seq (.loud [
    ⟨some 45, .load (.tmp 8) 7 true .plain, none⟩,
    ⟨some 46, .load (.tmp 3) 7 true .plain, none⟩,
    ⟨some 47, .call 60 [false] [.tmp 46], none⟩,
    ⟨some 48, .call 63 [false, false] [.tmp 45, .tmp 47], none⟩,
    ⟨some 49, .un .not (.tmp 48), none⟩] [0, 0, 2, 7, 15] [2, 3, 6, 7, 8, 9, 49])
  (.cond (.tmp 49)
    (.seq (.region [
      ⟨some 4, .mov (.const (.bool false)), none⟩] [4])
    .ret)
    .skip))
  (.seq (.region [
    ⟨some 10, .mov (.const (.int .i64 1)), none⟩] [2, 3, 6, 7, 8, 9, 10])
  (.seq (.region [
    ⟨some 50, .load (.tmp 7) 9 true .plain, none⟩,
    ⟨some 51, .mov (.tmp 10), none⟩,
    ⟨some 52, .call 46 [true, false] [.tmp 50, .tmp 51], none⟩,
    ⟨some 10, .mov (.tmp 52), none⟩] [2, 3, 6, 8, 9, 10])
  (.seq (.region [
    ⟨some 53, .load (.tmp 8) 7 true .plain, none⟩,
    ⟨some 54, .mov (.tmp 10), none⟩,
    ⟨some 55, .call 62 [true, false] [.tmp 53, .tmp 54], none⟩,
    ⟨some 10, .mov (.tmp 55), none⟩] [2, 3, 6, 9, 10])
  (.seq (.seq (.region [
    ⟨some 56, .mov (.tmp 10), none⟩,
    ⟨some 57, .bin .lss (.tmp 56) (.const (.int .i64 0)), none⟩,
    ⟨some 58, .mov (.tmp 57), none⟩,
    ⟨some 59, .load (.tmp 9) 9 true .plain, some (58, false)⟩,
    ⟨some 60, .load (.tmp 6) 9 true .plain, some (58, false)⟩,
    ⟨some 61, .call 27 [false, false] [.tmp 59, .tmp 60], some (58, false)⟩,
    ⟨some 62, .un .not (.tmp 61), some (58, false)⟩,
    ⟨some 63, .pick (.tmp 58) (.const (.bool true)) (.tmp 62), none⟩] [2, 3, 6, 9, 63])
  (.cond (.tmp 63)
    (.seq (.region [
      ⟨some 4, .mov (.const (.bool false)), none⟩] [4])
    .ret)
    .skip))
  (.seq (.region [
    ⟨some 11, .mov (.const (.int .i64 1)), none⟩] [2, 3, 6, 9, 11])
  (.seq (.region [
    ⟨some 64, .load (.tmp 9) 9 true .plain, none⟩,
    ⟨some 65, .mov (.tmp 11), none⟩,
    ⟨some 66, .call 46 [true, false] [.tmp 64, .tmp 65], none⟩,
    ⟨some 11, .mov (.tmp 66), none⟩] [2, 3, 6, 9, 11])
  (.seq (.region [
    ⟨some 12, .mov (.const (.int .i64 1)), none⟩] [2, 3, 6, 9, 11, 12])
  (.seq (.region [
    ⟨some 67, .load (.tmp 9) 9 true .plain, none⟩,
    ⟨some 68, .mov (.tmp 12), none⟩,
    ⟨some 69, .call 45 [false, false] [.tmp 67, .tmp 68], none⟩,
    ⟨some 12, .mov (.tmp 69), none⟩] [2, 3, 6, 9, 11, 12])
  (.seq (.seq (.region [
    ⟨some 70, .mov (.tmp 12), none⟩,
    ⟨some 71, .bin .lss (.tmp 70) (.const (.int .i64 0)), none⟩] [2, 3, 6, 9, 11, 12, 71])
  (.cond (.tmp 71)
    (.seq (.region [
      ⟨some 4, .mov (.const (.bool false)), none⟩] [4])
    .ret)
    .skip))
  (.seq (.seq (.region [
    ⟨some 72, .mov (.tmp 12), none⟩,
    ⟨some 73, .mov (.tmp 11), none⟩,
    ⟨some 74, .bin .neq (.tmp 72) (.tmp 73), none⟩] [2, 3, 6, 9, 11, 74])
  (.cond (.tmp 74)
    (.seq (.region [
      ⟨some 4, .mov (.const (.bool false)), none⟩] [4])
    .ret)
    .skip))
  (.seq (.loud [
    ⟨some 75, .load (.tmp 2) 9 true .plain, none⟩,
    ⟨some 76, .call 26 [false] [.tmp 75], none⟩,
    ⟨some 77, .load (.tmp 3) 7 true .plain, none⟩,
    ⟨some 78, .call 60 [false] [.tmp 77], none⟩,
    ⟨some 79, .call 61 [false, false] [.tmp 76, .tmp 78], none⟩,
    ⟨some 13, .alloc [.str ⟨#[]⟩, .bool false, .int .i64 0, .bool false, .int .i64 0, .sl .own 7 [], .sl .own 11 [], .sl .own 4 [], .sl .own 4 []], none⟩,
    ⟨none, .store (.tmp 13) (.tmp 79) 9, none⟩] [0, 1, 0, 7, 15, 0, 63] [6, 9, 11, 13])
  (.seq (.seq (.region [
    ⟨some 80, .load (.tmp 13) 9 true .plain, none⟩,
    ⟨some 81, .load (.tmp 6) 9 true .plain, none⟩,
    ⟨some 82, .call 27 [false, false] [.tmp 80, .tmp 81], none⟩,
    ⟨some 83, .un .not (.tmp 82), none⟩] [9, 11, 83])
  (.cond (.tmp 83)
    (.seq (.region [
      ⟨some 4, .mov (.const (.bool false)), none⟩] [4])
    .ret)
    .skip))
  (.seq (.region [
    ⟨some 12, .mov (.const (.int .i64 1)), none⟩] [9, 11, 12])
  (.seq (.region [
    ⟨some 84, .load (.tmp 9) 9 true .plain, none⟩,
    ⟨some 85, .mov (.tmp 12), none⟩,
    ⟨some 86, .call 45 [false, false] [.tmp 84, .tmp 85], none⟩,
    ⟨some 12, .mov (.tmp 86), none⟩] [11, 12])
  (.seq (.seq (.region [
    ⟨some 87, .mov (.tmp 12), none⟩,
    ⟨some 88, .bin .lss (.tmp 87) (.const (.int .i64 0)), none⟩] [11, 12, 88])
  (.cond (.tmp 88)
    (.seq (.region [
      ⟨some 4, .mov (.const (.bool false)), none⟩] [4])
    .ret)
    .skip))
  (.seq (.seq (.region [
    ⟨some 89, .mov (.tmp 12), none⟩,
    ⟨some 90, .mov (.tmp 11), none⟩,
    ⟨some 91, .bin .neq (.tmp 89) (.tmp 90), none⟩] [91])
  (.cond (.tmp 91)
    (.seq (.region [
      ⟨some 4, .mov (.const (.bool false)), none⟩] [4])
    .ret)
    .skip))
  (.seq (.region [
    ⟨some 4, .mov (.const (.bool true)), none⟩] [4])
  .ret))))))))))))))))))))))))))))))⟩
/-- The functions' own table. -/
def codeOf (k : Nat) : Option CFn :=
  match k with
  | 0 => some c0
  | 1 => some c1
  | 2 => some c2
  | 3 => some c3
  | 4 => some c4
  | 5 => some c5
  | 6 => some c6
  | 7 => some c7
  | 8 => some c8
  | 9 => some c9
  | 10 => some c10
  | 11 => some c11
  | 12 => some c12
  | 13 => some c13
  | 17 => some c17
  | 19 => some c19
  | 26 => some c26
  | 27 => some c27
  | 28 => some c28
  | 29 => some c29
  | 30 => some c30
  | 45 => some c45
  | 46 => some c46
  | 60 => some c60
  | 61 => some c61
  | 62 => some c62
  | 63 => some c63
  | 64 => some c64
  | 65 => some c65
  | 71 => some c71
  | 79 => some c79
  | 80 => some c80
  | 81 => some c81
  | 82 => some c82
  | 83 => some c83
  | 84 => some c84
  | 85 => some c85
  | 86 => some c86
  | 95 => some c95
  | 96 => some c96
  | 100 => some c100
  | 101 => some c101
  | 102 => some c102
  | 105 => some c105
  | 106 => some c106
  | 109 => some c109
  | 110 => some c110
  | 111 => some c111
  | 112 => some c112
  | 113 => some c113
  | 114 => some c114
  | 115 => some c115
  | 117 => some c117
  | 120 => some c120
  | 127 => some c127
  | 128 => some c128
  | 129 => some c129
  | 136 => some c136
  | 137 => some c137
  | 152 => some c152
  | 153 => some c153
  | 154 => some c154
  | 177 => some c177
  | _ => none
def prim : Callee := fun _ _ _ => none
def P : CProg := ⟨codeOf, prim⟩
@[simp] theorem fn0 : P.fn 0 = some c0 := rfl
@[simp] theorem fn1 : P.fn 1 = some c1 := rfl
@[simp] theorem fn2 : P.fn 2 = some c2 := rfl
@[simp] theorem fn3 : P.fn 3 = some c3 := rfl
@[simp] theorem fn4 : P.fn 4 = some c4 := rfl
@[simp] theorem fn5 : P.fn 5 = some c5 := rfl
@[simp] theorem fn6 : P.fn 6 = some c6 := rfl
@[simp] theorem fn7 : P.fn 7 = some c7 := rfl
@[simp] theorem fn8 : P.fn 8 = some c8 := rfl
@[simp] theorem fn9 : P.fn 9 = some c9 := rfl
@[simp] theorem fn10 : P.fn 10 = some c10 := rfl
@[simp] theorem fn11 : P.fn 11 = some c11 := rfl
@[simp] theorem fn12 : P.fn 12 = some c12 := rfl
@[simp] theorem fn13 : P.fn 13 = some c13 := rfl
@[simp] theorem fn17 : P.fn 17 = some c17 := rfl
@[simp] theorem fn19 : P.fn 19 = some c19 := rfl
@[simp] theorem fn26 : P.fn 26 = some c26 := rfl
@[simp] theorem fn27 : P.fn 27 = some c27 := rfl
@[simp] theorem fn28 : P.fn 28 = some c28 := rfl
@[simp] theorem fn29 : P.fn 29 = some c29 := rfl
@[simp] theorem fn30 : P.fn 30 = some c30 := rfl
@[simp] theorem fn45 : P.fn 45 = some c45 := rfl
@[simp] theorem fn46 : P.fn 46 = some c46 := rfl
@[simp] theorem fn60 : P.fn 60 = some c60 := rfl
@[simp] theorem fn61 : P.fn 61 = some c61 := rfl
@[simp] theorem fn62 : P.fn 62 = some c62 := rfl
@[simp] theorem fn63 : P.fn 63 = some c63 := rfl
@[simp] theorem fn64 : P.fn 64 = some c64 := rfl
@[simp] theorem fn65 : P.fn 65 = some c65 := rfl
@[simp] theorem fn71 : P.fn 71 = some c71 := rfl
@[simp] theorem fn79 : P.fn 79 = some c79 := rfl
@[simp] theorem fn80 : P.fn 80 = some c80 := rfl
@[simp] theorem fn81 : P.fn 81 = some c81 := rfl
@[simp] theorem fn82 : P.fn 82 = some c82 := rfl
@[simp] theorem fn83 : P.fn 83 = some c83 := rfl
@[simp] theorem fn84 : P.fn 84 = some c84 := rfl
@[simp] theorem fn85 : P.fn 85 = some c85 := rfl
@[simp] theorem fn86 : P.fn 86 = some c86 := rfl
@[simp] theorem fn95 : P.fn 95 = some c95 := rfl
@[simp] theorem fn96 : P.fn 96 = some c96 := rfl
@[simp] theorem fn100 : P.fn 100 = some c100 := rfl
@[simp] theorem fn101 : P.fn 101 = some c101 := rfl
@[simp] theorem fn102 : P.fn 102 = some c102 := rfl
@[simp] theorem fn105 : P.fn 105 = some c105 := rfl
@[simp] theorem fn106 : P.fn 106 = some c106 := rfl
@[simp] theorem fn109 : P.fn 109 = some c109 := rfl
@[simp] theorem fn110 : P.fn 110 = some c110 := rfl
@[simp] theorem fn111 : P.fn 111 = some c111 := rfl
@[simp] theorem fn112 : P.fn 112 = some c112 := rfl
@[simp] theorem fn113 : P.fn 113 = some c113 := rfl
@[simp] theorem fn114 : P.fn 114 = some c114 := rfl
@[simp] theorem fn115 : P.fn 115 = some c115 := rfl
@[simp] theorem fn117 : P.fn 117 = some c117 := rfl
@[simp] theorem fn120 : P.fn 120 = some c120 := rfl
@[simp] theorem fn127 : P.fn 127 = some c127 := rfl
@[simp] theorem fn128 : P.fn 128 = some c128 := rfl
@[simp] theorem fn129 : P.fn 129 = some c129 := rfl
@[simp] theorem fn136 : P.fn 136 = some c136 := rfl
@[simp] theorem fn137 : P.fn 137 = some c137 := rfl
@[simp] theorem fn152 : P.fn 152 = some c152 := rfl
@[simp] theorem fn153 : P.fn 153 = some c153 := rfl
@[simp] theorem fn154 : P.fn 154 = some c154 := rfl
@[simp] theorem fn177 : P.fn 177 = some c177 := rfl
end Go.Proofs.Ytgeingajanamnaa
