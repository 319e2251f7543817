/- The abstract code of the program's functions, printed by a program of ours out of Lean's own print of the translation. -/
import Derived.Test.YtobpliconmgbcaaAv
namespace Go.Proofs.Ytobpliconmgbcaa
open Go
-- impl.MateAlive
def c1 : CFn := ⟨16, [.tmp 2],
  (.seq (.region [
    ⟨some 1, .box (.tmp 0), none⟩,
    ⟨some 2, .mov (.const (.bool false)), none⟩] [1])
  (.seq (.region [
    ⟨some 3, .faddr (.tmp 1) 7, none⟩,
    ⟨some 4, .load (.tmp 3) 1 false .plain, none⟩,
    ⟨some 5, .bin .eql (.tmp 4) (.const (.int .i64 3)), none⟩,
    ⟨some 6, .mov (.tmp 5), none⟩,
    ⟨some 7, .faddr (.tmp 1) 7, some (6, false)⟩,
    ⟨some 8, .load (.tmp 7) 1 false .plain, some (6, false)⟩,
    ⟨some 9, .bin .eql (.tmp 8) (.const (.int .i64 4)), some (6, false)⟩,
    ⟨some 10, .pick (.tmp 6) (.const (.bool true)) (.tmp 9), none⟩,
    ⟨some 11, .mov (.tmp 10), none⟩,
    ⟨some 12, .faddr (.tmp 1) 7, some (11, false)⟩,
    ⟨some 13, .load (.tmp 12) 1 false .plain, some (11, false)⟩,
    ⟨some 14, .bin .eql (.tmp 13) (.const (.int .i64 6)), some (11, false)⟩,
    ⟨some 15, .pick (.tmp 11) (.const (.bool true)) (.tmp 14), none⟩,
    ⟨some 2, .mov (.tmp 15), none⟩] [2])
  .ret))⟩
-- spec.MateAlive
def c2 : CFn := ⟨16, [.tmp 2],
  (.seq (.region [
    ⟨some 1, .box (.tmp 0), none⟩,
    ⟨some 2, .mov (.const (.bool false)), none⟩] [1])
  (.seq (.region [
    ⟨some 3, .faddr (.tmp 1) 7, none⟩,
    ⟨some 4, .load (.tmp 3) 1 false .plain, none⟩,
    ⟨some 5, .bin .eql (.tmp 4) (.const (.int .i64 3)), none⟩,
    ⟨some 6, .mov (.tmp 5), none⟩,
    ⟨some 7, .faddr (.tmp 1) 7, some (6, false)⟩,
    ⟨some 8, .load (.tmp 7) 1 false .plain, some (6, false)⟩,
    ⟨some 9, .bin .eql (.tmp 8) (.const (.int .i64 4)), some (6, false)⟩,
    ⟨some 10, .pick (.tmp 6) (.const (.bool true)) (.tmp 9), none⟩,
    ⟨some 11, .mov (.tmp 10), none⟩,
    ⟨some 12, .faddr (.tmp 1) 7, some (11, false)⟩,
    ⟨some 13, .load (.tmp 12) 1 false .plain, some (11, false)⟩,
    ⟨some 14, .bin .eql (.tmp 13) (.const (.int .i64 6)), some (11, false)⟩,
    ⟨some 15, .pick (.tmp 11) (.const (.bool true)) (.tmp 14), none⟩,
    ⟨some 2, .mov (.tmp 15), none⟩] [2])
  .ret))⟩
-- impl.MateLive
def c14 : CFn := ⟨121, [.cell 8 11 true, .tmp 9],
  (.seq (.region [
    ⟨some 4, .box (.tmp 0), none⟩,
    ⟨some 5, .box (.tmp 1), none⟩,
    ⟨some 8, .alloc [.str ⟨#[]⟩, .int .i64 0, .str ⟨#[]⟩, .int .i64 0, .int .i64 0, .int .i64 0, .int .i64 0, .int .i64 0, .int .i64 0, .int .i64 0, .int .i64 0], none⟩,
    ⟨some 9, .mov (.const (.bool false)), none⟩] [2, 3, 4, 5, 8])
  (.seq (.region [
    ⟨some 11, .mov (.tmp 2), none⟩,
    ⟨some 12, .un .not (.tmp 11), none⟩,
    ⟨some 13, .mov (.tmp 12), none⟩,
    ⟨some 14, .load (.tmp 5) 7 true .plain, some (13, false)⟩,
    ⟨some 15, .faddr (.tmp 4) 0, some (13, false)⟩,
    ⟨some 16, .load (.tmp 15) 7 true .plain, some (13, false)⟩,
    ⟨some 17, .eqs true [.s, .i, .s, .i, .i, .i, .i] (.tmp 14) (.tmp 16), some (13, false)⟩,
    ⟨some 18, .pick (.tmp 13) (.const (.bool true)) (.tmp 17), none⟩,
    ⟨some 10, .mov (.tmp 18), none⟩] [3, 4, 8, 10])
  (.seq (.seq (.region [
    ⟨some 19, .mov (.tmp 10), none⟩,
    ⟨some 20, .mov (.tmp 19), none⟩,
    ⟨some 21, .faddr (.tmp 4) 7, some (20, true)⟩,
    ⟨some 22, .load (.tmp 21) 1 false .plain, some (20, true)⟩,
    ⟨some 23, .bin .neq (.tmp 22) (.const (.int .i64 6)), some (20, true)⟩,
    ⟨some 24, .pick (.tmp 20) (.tmp 23) (.const (.bool false)), none⟩] [3, 4, 8, 24])
  (.cond (.tmp 24)
    (.seq (.seq (.region [
      ⟨some 25, .load (.tmp 4) 11 true .plain, none⟩,
      ⟨some 26, .call 1 [false] [.tmp 25], none⟩,
      ⟨some 27, .un .not (.tmp 26), none⟩] [4, 8, 27])
    (.cond (.tmp 27)
      (.seq (.region [
        ⟨some 28, .build [.str ⟨#[]⟩, .int .i64 0, .str ⟨#[]⟩, .int .i64 0, .int .i64 0, .int .i64 0, .int .i64 0, .int .i64 0, .int .i64 0, .int .i64 0, .int .i64 0] [], none⟩,
        ⟨none, .store (.tmp 8) (.tmp 28) 11, none⟩,
        ⟨some 9, .mov (.const (.bool false)), none⟩] [8, 9])
      .ret)
      .skip))
    (.seq (.region [
      ⟨some 29, .faddr (.tmp 4) 0, none⟩,
      ⟨some 30, .faddr (.tmp 29) 6, none⟩,
      ⟨some 31, .load (.tmp 30) 1 false .plain, none⟩,
      ⟨some 32, .faddr (.tmp 4) 7, none⟩,
      ⟨none, .store (.tmp 32) (.const (.int .i64 6)) 1, none⟩,
      ⟨some 33, .faddr (.tmp 4) 8, none⟩,
      ⟨none, .store (.tmp 33) (.tmp 31) 1, none⟩] [4, 8])
    (.seq (.region [
      ⟨some 34, .load (.tmp 4) 11 true .plain, none⟩,
      ⟨none, .store (.tmp 8) (.tmp 34) 11, none⟩,
      ⟨some 9, .mov (.const (.bool true)), none⟩] [8, 9])
    .ret)))
    .skip))
  (.seq (.seq (.region [
    ⟨some 35, .faddr (.tmp 4) 7, none⟩,
    ⟨some 36, .load (.tmp 35) 1 false .plain, none⟩] [3, 4, 8, 36])
  (.block 0
    (.seq (.seq (.region [
      ⟨some 45, .bin .eql (.tmp 36) (.const (.int .i64 1)), none⟩,
      ⟨some 44, .mov (.tmp 45), none⟩] [3, 4, 8, 36, 44])
    (.cond (.tmp 44)
      .skip
      (.region [
        ⟨some 46, .bin .eql (.tmp 36) (.const (.int .i64 5)), none⟩,
        ⟨some 44, .mov (.tmp 46), none⟩] [3, 4, 8, 36, 44])))
    (.cond (.tmp 44)
      (.seq (.region [
        ⟨some 47, .faddr (.tmp 4) 8, none⟩,
        ⟨some 48, .load (.tmp 47) 1 false .plain, none⟩,
        ⟨some 49, .bin .gtr (.tmp 48) (.const (.int .i64 1)), none⟩] [3, 4, 8, 49])
      (.cond (.tmp 49)
        (.region [
          ⟨some 50, .faddr (.tmp 4) 8, none⟩,
          ⟨some 51, .load (.tmp 50) 1 false .plain, none⟩,
          ⟨some 52, .bin .sub (.tmp 51) (.const (.int .i64 1)), none⟩,
          ⟨some 53, .faddr (.tmp 4) 8, none⟩,
          ⟨none, .store (.tmp 53) (.tmp 52) 1, none⟩] [4, 8])
        (.region [
          ⟨some 54, .load (.tmp 4) 11 true .plain, none⟩,
          ⟨some 55, .mov (.tmp 3), none⟩,
          ⟨some 56, .call 92 [false, false] [.tmp 54, .tmp 55], none⟩,
          ⟨none, .store (.tmp 4) (.tmp 56) 11, none⟩] [4, 8])))
      (.seq (.region [
        ⟨some 58, .bin .eql (.tmp 36) (.const (.int .i64 2)), none⟩,
        ⟨some 57, .mov (.tmp 58), none⟩] [3, 4, 8, 36, 57])
      (.cond (.tmp 57)
        (.region [
          ⟨some 59, .load (.tmp 4) 11 true .plain, none⟩,
          ⟨some 60, .mov (.tmp 3), none⟩,
          ⟨some 61, .call 92 [false, false] [.tmp 59, .tmp 60], none⟩,
          ⟨none, .store (.tmp 4) (.tmp 61) 11, none⟩] [4, 8])
        (.seq (.region [
          ⟨some 63, .bin .eql (.tmp 36) (.const (.int .i64 3)), none⟩,
          ⟨some 62, .mov (.tmp 63), none⟩] [4, 8, 36, 62])
        (.cond (.tmp 62)
          (.seq (.region [
            ⟨some 64, .faddr (.tmp 4) 8, none⟩,
            ⟨some 65, .load (.tmp 64) 1 false .plain, none⟩,
            ⟨some 66, .bin .gtr (.tmp 65) (.const (.int .i64 1)), none⟩] [4, 8, 66])
          (.cond (.tmp 66)
            (.region [
              ⟨some 67, .faddr (.tmp 4) 8, none⟩,
              ⟨some 68, .load (.tmp 67) 1 false .plain, none⟩,
              ⟨some 69, .bin .sub (.tmp 68) (.const (.int .i64 1)), none⟩,
              ⟨some 70, .faddr (.tmp 4) 8, none⟩,
              ⟨none, .store (.tmp 70) (.tmp 69) 1, none⟩] [4, 8])
            (.region [
              ⟨some 71, .faddr (.tmp 4) 0, none⟩,
              ⟨some 72, .faddr (.tmp 71) 5, none⟩,
              ⟨some 73, .load (.tmp 72) 1 false .plain, none⟩,
              ⟨some 74, .faddr (.tmp 4) 7, none⟩,
              ⟨none, .store (.tmp 74) (.const (.int .i64 4)) 1, none⟩,
              ⟨some 75, .faddr (.tmp 4) 8, none⟩,
              ⟨none, .store (.tmp 75) (.tmp 73) 1, none⟩] [4, 8])))
          (.seq (.region [
            ⟨some 77, .bin .eql (.tmp 36) (.const (.int .i64 4)), none⟩,
            ⟨some 76, .mov (.tmp 77), none⟩] [4, 8, 36, 76])
          (.cond (.tmp 76)
            (.block 1
              (.seq (.region [
                ⟨some 79, .faddr (.tmp 4) 8, none⟩,
                ⟨some 80, .load (.tmp 79) 1 false .plain, none⟩,
                ⟨some 81, .bin .gtr (.tmp 80) (.const (.int .i64 1)), none⟩,
                ⟨some 78, .mov (.tmp 81), none⟩] [4, 8, 78])
              (.cond (.tmp 78)
                (.region [
                  ⟨some 82, .faddr (.tmp 4) 8, none⟩,
                  ⟨some 83, .load (.tmp 82) 1 false .plain, none⟩,
                  ⟨some 84, .bin .sub (.tmp 83) (.const (.int .i64 1)), none⟩,
                  ⟨some 85, .faddr (.tmp 4) 8, none⟩,
                  ⟨none, .store (.tmp 85) (.tmp 84) 1, none⟩] [4, 8])
                (.seq (.region [
                  ⟨some 87, .faddr (.tmp 4) 8, none⟩,
                  ⟨some 88, .load (.tmp 87) 1 false .plain, none⟩,
                  ⟨some 89, .bin .eql (.tmp 88) (.const (.int .i64 1)), none⟩,
                  ⟨some 86, .mov (.tmp 89), none⟩] [4, 8, 86])
                (.cond (.tmp 86)
                  (.seq (.region [
                    ⟨some 90, .faddr (.tmp 4) 9, none⟩,
                    ⟨some 91, .load (.tmp 90) 1 false .plain, none⟩,
                    ⟨some 92, .mkmap true, none⟩,
                    ⟨none, .mapset true (.tmp 92) (.const (.bool true)) (.const (.int .i64 1)), none⟩,
                    ⟨some 93, .mov (.tmp 92), none⟩,
                    ⟨some 94, .faddr (.tmp 4) 9, none⟩,
                    ⟨some 95, .load (.tmp 94) 1 false .plain, none⟩,
                    ⟨some 96, .bin .lss (.tmp 95) (.const (.int .i64 1000)), none⟩,
                    ⟨some 97, .lookup true (.int .i64 0) (.tmp 93) (.tmp 96), none⟩,
                    ⟨some 98, .bin .add (.tmp 91) (.tmp 97), none⟩,
                    ⟨some 99, .faddr (.tmp 4) 9, none⟩,
                    ⟨none, .store (.tmp 99) (.tmp 98) 1, none⟩] [4, 8])
                  (.seq (.region [
                    ⟨some 100, .faddr (.tmp 4) 7, none⟩,
                    ⟨none, .store (.tmp 100) (.const (.int .i64 5)) 1, none⟩,
                    ⟨some 101, .faddr (.tmp 4) 8, none⟩,
                    ⟨none, .store (.tmp 101) (.const (.int .i64 16)) 1, none⟩] [4, 8])
                  (.seq (.region [
                    ⟨some 102, .faddr (.tmp 4) 9, none⟩,
                    ⟨some 103, .load (.tmp 102) 1 false .plain, none⟩,
                    ⟨some 104, .bin .lss (.tmp 103) (.const (.int .i64 4)), none⟩] [4, 8, 104])
                  (.cond (.tmp 104)
                    (.region [
                      ⟨some 105, .faddr (.tmp 4) 9, none⟩,
                      ⟨some 106, .load (.tmp 105) 1 false .plain, none⟩,
                      ⟨some 107, .mx true (.tmp 106) (.const (.int .i64 0)), none⟩,
                      ⟨some 108, .bin .shl (.const (.int .i64 1)) (.tmp 107), none⟩,
                      ⟨some 109, .faddr (.tmp 4) 8, none⟩,
                      ⟨none, .store (.tmp 109) (.tmp 108) 1, none⟩] [4, 8])
                    .skip))))
                  .skip)))))
            (.seq (.region [
              ⟨some 111, .bin .eql (.tmp 36) (.const (.int .i64 6)), none⟩,
              ⟨some 110, .mov (.tmp 111), none⟩] [4, 8, 110])
            (.cond (.tmp 110)
              (.seq (.seq (.region [
                ⟨some 112, .faddr (.tmp 4) 8, none⟩,
                ⟨some 113, .load (.tmp 112) 1 false .plain, none⟩,
                ⟨some 114, .bin .leq (.tmp 113) (.const (.int .i64 1)), none⟩] [4, 8, 114])
              (.cond (.tmp 114)
                (.seq (.region [
                  ⟨some 115, .build [.str ⟨#[]⟩, .int .i64 0, .str ⟨#[]⟩, .int .i64 0, .int .i64 0, .int .i64 0, .int .i64 0, .int .i64 0, .int .i64 0, .int .i64 0, .int .i64 0] [], none⟩,
                  ⟨none, .store (.tmp 8) (.tmp 115) 11, none⟩,
                  ⟨some 9, .mov (.const (.bool false)), none⟩] [8, 9])
                .ret)
                .skip))
              (.region [
                ⟨some 116, .faddr (.tmp 4) 8, none⟩,
                ⟨some 117, .load (.tmp 116) 1 false .plain, none⟩,
                ⟨some 118, .bin .sub (.tmp 117) (.const (.int .i64 1)), none⟩,
                ⟨some 119, .faddr (.tmp 4) 8, none⟩,
                ⟨none, .store (.tmp 119) (.tmp 118) 1, none⟩] [4, 8]))
              (.seq (.region [
                ⟨some 37, .faddr (.tmp 4) 8, none⟩,
                ⟨some 38, .load (.tmp 37) 1 false .plain, none⟩,
                ⟨some 39, .bin .gtr (.tmp 38) (.const (.int .i64 1)), none⟩] [4, 8, 39])
              (.cond (.tmp 39)
                (.region [
                  ⟨some 40, .faddr (.tmp 4) 8, none⟩,
                  ⟨some 41, .load (.tmp 40) 1 false .plain, none⟩,
                  ⟨some 42, .bin .sub (.tmp 41) (.const (.int .i64 1)), none⟩,
                  ⟨some 43, .faddr (.tmp 4) 8, none⟩,
                  ⟨none, .store (.tmp 43) (.tmp 42) 1, none⟩] [4, 8])
                .skip))))))))))))))
  (.seq (.region [
    ⟨some 120, .load (.tmp 4) 11 true .plain, none⟩,
    ⟨none, .store (.tmp 8) (.tmp 120) 11, none⟩,
    ⟨some 9, .mov (.const (.bool true)), none⟩] [8, 9])
  .ret)))))⟩
-- spec.MateLive
def c15 : CFn := ⟨73, [.cell 8 11 true, .tmp 9],
  (.seq (.region [
    ⟨some 4, .box (.tmp 0), none⟩,
    ⟨some 5, .box (.tmp 1), none⟩,
    ⟨some 8, .alloc [.str ⟨#[]⟩, .int .i64 0, .str ⟨#[]⟩, .int .i64 0, .int .i64 0, .int .i64 0, .int .i64 0, .int .i64 0, .int .i64 0, .int .i64 0, .int .i64 0], none⟩,
    ⟨some 9, .mov (.const (.bool false)), none⟩] [2, 3, 4, 5, 8])
  (.seq (.seq (.region [
    ⟨some 10, .mov (.tmp 2), none⟩,
    ⟨some 11, .un .not (.tmp 10), none⟩,
    ⟨some 12, .mov (.tmp 11), none⟩,
    ⟨some 13, .load (.tmp 5) 7 true .plain, some (12, false)⟩,
    ⟨some 14, .faddr (.tmp 4) 0, some (12, false)⟩,
    ⟨some 15, .load (.tmp 14) 7 true .plain, some (12, false)⟩,
    ⟨some 16, .eqs true [.s, .i, .s, .i, .i, .i, .i] (.tmp 13) (.tmp 15), some (12, false)⟩,
    ⟨some 17, .pick (.tmp 12) (.const (.bool true)) (.tmp 16), none⟩,
    ⟨some 18, .mov (.tmp 17), none⟩,
    ⟨some 19, .faddr (.tmp 4) 7, some (18, true)⟩,
    ⟨some 20, .load (.tmp 19) 1 false .plain, some (18, true)⟩,
    ⟨some 21, .bin .neq (.tmp 20) (.const (.int .i64 6)), some (18, true)⟩,
    ⟨some 22, .pick (.tmp 18) (.tmp 21) (.const (.bool false)), none⟩] [3, 4, 8, 22])
  (.cond (.tmp 22)
    (.seq (.seq (.region [
      ⟨some 23, .load (.tmp 4) 11 true .plain, none⟩,
      ⟨some 24, .call 2 [false] [.tmp 23], none⟩,
      ⟨some 25, .un .not (.tmp 24), none⟩] [4, 8, 25])
    (.cond (.tmp 25)
      (.seq (.region [
        ⟨some 26, .build [.str ⟨#[]⟩, .int .i64 0, .str ⟨#[]⟩, .int .i64 0, .int .i64 0, .int .i64 0, .int .i64 0, .int .i64 0, .int .i64 0, .int .i64 0, .int .i64 0] [], none⟩,
        ⟨none, .store (.tmp 8) (.tmp 26) 11, none⟩,
        ⟨some 9, .mov (.const (.bool false)), none⟩] [8, 9])
      .ret)
      .skip))
    (.seq (.region [
      ⟨some 27, .faddr (.tmp 4) 7, none⟩,
      ⟨none, .store (.tmp 27) (.const (.int .i64 6)) 1, none⟩] [4, 8])
    (.seq (.region [
      ⟨some 28, .faddr (.tmp 4) 0, none⟩,
      ⟨some 29, .faddr (.tmp 28) 6, none⟩,
      ⟨some 30, .load (.tmp 29) 1 false .plain, none⟩,
      ⟨some 31, .faddr (.tmp 4) 8, none⟩,
      ⟨none, .store (.tmp 31) (.tmp 30) 1, none⟩] [4, 8])
    (.seq (.region [
      ⟨some 32, .load (.tmp 4) 11 true .plain, none⟩,
      ⟨none, .store (.tmp 8) (.tmp 32) 11, none⟩,
      ⟨some 9, .mov (.const (.bool true)), none⟩] [8, 9])
    .ret))))
    .skip))
  (.seq (.seq (.region [
    ⟨some 33, .faddr (.tmp 4) 7, none⟩,
    ⟨some 34, .load (.tmp 33) 1 false .plain, none⟩,
    ⟨some 35, .bin .neq (.tmp 34) (.const (.int .i64 2)), none⟩,
    ⟨some 36, .mov (.tmp 35), none⟩,
    ⟨some 37, .faddr (.tmp 4) 8, some (36, true)⟩,
    ⟨some 38, .load (.tmp 37) 1 false .plain, some (36, true)⟩,
    ⟨some 39, .bin .gtr (.tmp 38) (.const (.int .i64 1)), some (36, true)⟩,
    ⟨some 40, .pick (.tmp 36) (.tmp 39) (.const (.bool false)), none⟩] [3, 4, 8, 40])
  (.cond (.tmp 40)
    (.seq (.region [
      ⟨some 41, .faddr (.tmp 4) 8, none⟩,
      ⟨some 42, .load (.tmp 41) 1 false .plain, none⟩,
      ⟨some 43, .bin .sub (.tmp 42) (.const (.int .i64 1)), none⟩,
      ⟨some 44, .faddr (.tmp 4) 8, none⟩,
      ⟨none, .store (.tmp 44) (.tmp 43) 1, none⟩] [4, 8])
    (.seq (.region [
      ⟨some 45, .load (.tmp 4) 11 true .plain, none⟩,
      ⟨none, .store (.tmp 8) (.tmp 45) 11, none⟩,
      ⟨some 9, .mov (.const (.bool true)), none⟩] [8, 9])
    .ret))
    .skip))
  (.seq (.seq (.region [
    ⟨some 46, .faddr (.tmp 4) 7, none⟩,
    ⟨some 47, .load (.tmp 46) 1 false .plain, none⟩] [3, 4, 8, 47])
  (.block 0
    (.seq (.region [
      ⟨some 49, .bin .eql (.tmp 47) (.const (.int .i64 3)), none⟩,
      ⟨some 48, .mov (.tmp 49), none⟩] [3, 4, 8, 47, 48])
    (.cond (.tmp 48)
      (.seq (.region [
        ⟨some 50, .faddr (.tmp 4) 7, none⟩,
        ⟨none, .store (.tmp 50) (.const (.int .i64 4)) 1, none⟩] [4, 8])
      (.region [
        ⟨some 51, .faddr (.tmp 4) 0, none⟩,
        ⟨some 52, .faddr (.tmp 51) 5, none⟩,
        ⟨some 53, .load (.tmp 52) 1 false .plain, none⟩,
        ⟨some 54, .faddr (.tmp 4) 8, none⟩,
        ⟨none, .store (.tmp 54) (.tmp 53) 1, none⟩] [4, 8]))
      (.seq (.region [
        ⟨some 56, .bin .eql (.tmp 47) (.const (.int .i64 4)), none⟩,
        ⟨some 55, .mov (.tmp 56), none⟩] [3, 4, 8, 47, 55])
      (.cond (.tmp 55)
        (.seq (.region [
          ⟨some 57, .faddr (.tmp 4) 8, none⟩,
          ⟨some 58, .load (.tmp 57) 1 false .plain, none⟩,
          ⟨some 59, .bin .eql (.tmp 58) (.const (.int .i64 1)), none⟩] [4, 8, 59])
        (.cond (.tmp 59)
          (.region [
            ⟨some 60, .load (.tmp 4) 11 true .plain, none⟩,
            ⟨some 61, .call 93 [false] [.tmp 60], none⟩,
            ⟨none, .store (.tmp 4) (.tmp 61) 11, none⟩] [4, 8])
          .skip))
        (.seq (.region [
          ⟨some 63, .bin .eql (.tmp 47) (.const (.int .i64 6)), none⟩,
          ⟨some 62, .mov (.tmp 63), none⟩] [3, 4, 8, 47, 62])
        (.cond (.tmp 62)
          (.seq (.region [
            ⟨some 64, .build [.str ⟨#[]⟩, .int .i64 0, .str ⟨#[]⟩, .int .i64 0, .int .i64 0, .int .i64 0, .int .i64 0, .int .i64 0, .int .i64 0, .int .i64 0, .int .i64 0] [], none⟩,
            ⟨none, .store (.tmp 8) (.tmp 64) 11, none⟩,
            ⟨some 9, .mov (.const (.bool false)), none⟩] [8, 9])
          .ret)
          (.seq (.seq (.region [
            ⟨some 66, .bin .eql (.tmp 47) (.const (.int .i64 1)), none⟩,
            ⟨some 65, .mov (.tmp 66), none⟩] [3, 4, 8, 47, 65])
          (.cond (.tmp 65)
            .skip
            (.seq (.region [
              ⟨some 67, .bin .eql (.tmp 47) (.const (.int .i64 2)), none⟩,
              ⟨some 65, .mov (.tmp 67), none⟩] [3, 4, 8, 47, 65])
            (.cond (.tmp 65)
              .skip
              (.region [
                ⟨some 68, .bin .eql (.tmp 47) (.const (.int .i64 5)), none⟩,
                ⟨some 65, .mov (.tmp 68), none⟩] [3, 4, 8, 65])))))
          (.cond (.tmp 65)
            (.region [
              ⟨some 69, .load (.tmp 4) 11 true .plain, none⟩,
              ⟨some 70, .mov (.tmp 3), none⟩,
              ⟨some 71, .call 94 [false, false] [.tmp 69, .tmp 70], none⟩,
              ⟨none, .store (.tmp 4) (.tmp 71) 11, none⟩] [4, 8])
            .skip))))))))))
  (.seq (.region [
    ⟨some 72, .load (.tmp 4) 11 true .plain, none⟩,
    ⟨none, .store (.tmp 8) (.tmp 72) 11, none⟩,
    ⟨some 9, .mov (.const (.bool true)), none⟩] [8, 9])
  .ret)))))⟩
-- spec.DrawMateLive
def c16 : CFn := ⟨46, [.cell 2 11 true, .cell 3 7 true, .tmp 4, .tmp 5],
  (.seq (.region [
    ⟨some 2, .alloc [.str ⟨#[]⟩, .int .i64 0, .str ⟨#[]⟩, .int .i64 0, .int .i64 0, .int .i64 0, .int .i64 0, .int .i64 0, .int .i64 0, .int .i64 0, .int .i64 0], none⟩,
    ⟨some 3, .alloc [.str ⟨#[]⟩, .int .i64 0, .str ⟨#[]⟩, .int .i64 0, .int .i64 0, .int .i64 0, .int .i64 0], none⟩,
    ⟨some 4, .mov (.const (.bool false)), none⟩,
    ⟨some 5, .mov (.const (.int .i64 0)), none⟩] [0, 2, 3])
  (.seq (.region [
    ⟨some 10, .mov (.tmp 0), none⟩,
    ⟨some 11, .call 91 [false] [.tmp 10], none⟩,
    ⟨some 6, .mov (.tmp 11), none⟩] [2, 3, 6])
  (.seq (.region [
    ⟨some 12, .mov (.tmp 6), none⟩,
    ⟨some 13, .call 89 [true, false] [.tmp 12, .const (.int .i64 40)], none⟩,
    ⟨some 7, .mov (.tmp 13), none⟩] [2, 3, 6, 7])
  (.seq (.region [
    ⟨some 14, .mov (.tmp 6), none⟩,
    ⟨some 15, .mov (.tmp 7), none⟩,
    ⟨some 16, .call 90 [true, false, false] [.tmp 14, .const (.str ⟨#[99]⟩), .tmp 15], none⟩,
    ⟨some 8, .alloc [.str ⟨#[]⟩, .int .i64 0, .str ⟨#[]⟩, .int .i64 0, .int .i64 0, .int .i64 0, .int .i64 0, .int .i64 0, .int .i64 0, .int .i64 0, .int .i64 0], none⟩,
    ⟨none, .store (.tmp 8) (.tmp 16) 11, none⟩] [2, 3, 6, 7, 8])
  (.seq (.region [
    ⟨some 17, .faddr (.tmp 8) 0, none⟩,
    ⟨some 18, .load (.tmp 17) 7 true .plain, none⟩,
    ⟨some 9, .alloc [.str ⟨#[]⟩, .int .i64 0, .str ⟨#[]⟩, .int .i64 0, .int .i64 0, .int .i64 0, .int .i64 0], none⟩,
    ⟨none, .store (.tmp 9) (.tmp 18) 7, none⟩] [2, 3, 6, 7, 8, 9])
  (.seq (.seq (.region [
    ⟨some 19, .mov (.tmp 6), none⟩,
    ⟨some 20, .call 89 [true, false] [.tmp 19, .const (.int .i64 8)], none⟩] [2, 3, 6, 7, 8, 9, 20])
  (.block 0
    (.seq (.region [
      ⟨some 22, .bin .eql (.tmp 20) (.const (.int .i64 0)), none⟩,
      ⟨some 21, .mov (.tmp 22), none⟩] [2, 3, 6, 7, 8, 9, 20, 21])
    (.cond (.tmp 21)
      (.region [
        ⟨some 23, .mov (.tmp 6), none⟩,
        ⟨some 24, .call 87 [true, false] [.tmp 23, .const (.str ⟨#[99]⟩)], none⟩,
        ⟨none, .store (.tmp 9) (.tmp 24) 7, none⟩] [2, 3, 7, 8, 9])
      (.seq (.region [
        ⟨some 26, .bin .eql (.tmp 20) (.const (.int .i64 1)), none⟩,
        ⟨some 25, .mov (.tmp 26), none⟩] [2, 3, 6, 7, 8, 9, 20, 25])
      (.cond (.tmp 25)
        (.seq (.region [
          ⟨some 27, .load (.tmp 8) 11 true .plain, none⟩,
          ⟨some 28, .build [.str ⟨#[]⟩, .int .i64 0, .str ⟨#[]⟩, .int .i64 0, .int .i64 0, .int .i64 0, .int .i64 0] [], none⟩,
          ⟨some 29, .mov (.tmp 7), none⟩,
          ⟨none, .store (.tmp 2) (.tmp 27) 11, none⟩,
          ⟨none, .store (.tmp 3) (.tmp 28) 7, none⟩,
          ⟨some 4, .mov (.const (.bool false)), none⟩,
          ⟨some 5, .mov (.tmp 29), none⟩] [2, 3, 4, 5])
        .ret)
        (.seq (.region [
          ⟨some 31, .bin .eql (.tmp 20) (.const (.int .i64 2)), none⟩,
          ⟨some 30, .mov (.tmp 31), none⟩] [2, 3, 6, 7, 8, 9, 20, 30])
        (.cond (.tmp 30)
          (.region [
            ⟨some 32, .mov (.tmp 6), none⟩,
            ⟨some 33, .load (.tmp 8) 11 true .plain, none⟩,
            ⟨some 34, .call 88 [true, false] [.tmp 32, .tmp 33], none⟩,
            ⟨none, .store (.tmp 8) (.tmp 34) 11, none⟩] [2, 3, 7, 8, 9])
          (.seq (.region [
            ⟨some 36, .bin .eql (.tmp 20) (.const (.int .i64 3)), none⟩,
            ⟨some 35, .mov (.tmp 36), none⟩] [2, 3, 6, 7, 8, 9, 35])
          (.cond (.tmp 35)
            (.seq (.region [
              ⟨some 37, .mov (.tmp 6), none⟩,
              ⟨some 38, .call 89 [true, false] [.tmp 37, .const (.int .i64 2)], none⟩,
              ⟨some 39, .bin .sub (.const (.int .i64 1000)) (.tmp 38), none⟩,
              ⟨some 40, .faddr (.tmp 8) 9, none⟩,
              ⟨none, .store (.tmp 40) (.tmp 39) 1, none⟩] [2, 3, 7, 8, 9])
            (.seq (.region [
              ⟨some 41, .faddr (.tmp 8) 7, none⟩,
              ⟨none, .store (.tmp 41) (.const (.int .i64 4)) 1, none⟩] [2, 3, 7, 8, 9])
            (.region [
              ⟨some 42, .faddr (.tmp 8) 8, none⟩,
              ⟨none, .store (.tmp 42) (.const (.int .i64 1)) 1, none⟩] [2, 3, 7, 8, 9])))
            .skip))))))))))
  (.seq (.loud [
    ⟨some 43, .load (.tmp 8) 11 true .plain, none⟩,
    ⟨some 44, .load (.tmp 9) 7 true .plain, none⟩,
    ⟨some 45, .mov (.tmp 7), none⟩,
    ⟨none, .store (.tmp 2) (.tmp 43) 11, none⟩,
    ⟨none, .store (.tmp 3) (.tmp 44) 7, none⟩,
    ⟨some 4, .mov (.const (.bool true)), none⟩,
    ⟨some 5, .mov (.tmp 45), none⟩] [0, 0, 0, 1, 11, 27, 63] [2, 3, 4, 5])
  .ret)))))))⟩
-- spec.l1DrawWant
def c87 : CFn := ⟨26, [.cell 4 7 true],
  (.seq (.region [
    ⟨some 4, .alloc [.str ⟨#[]⟩, .int .i64 0, .str ⟨#[]⟩, .int .i64 0, .int .i64 0, .int .i64 0, .int .i64 0], none⟩] [0, 1, 4])
  (.seq (.loud [
    ⟨some 5, .mov (.tmp 1), none⟩,
    ⟨some 6, .mov (.tmp 0), none⟩,
    ⟨some 7, .call 89 [true, false] [.tmp 6, .const (.int .i64 3)], none⟩,
    ⟨some 8, .bin .add (.const (.int .i64 1)) (.tmp 7), none⟩,
    ⟨some 9, .bslice 1 [.str ⟨#[]⟩] 4 [(0, .const (.str ⟨#[]⟩)), (1, .const (.str ⟨#[118, 111, 108]⟩)), (2, .const (.str ⟨#[105, 112]⟩)), (3, .const (.str ⟨#[118, 111, 108, 50]⟩))], none⟩,
    ⟨some 10, .mov (.tmp 0), none⟩,
    ⟨some 11, .call 89 [true, false] [.tmp 10, .const (.int .i64 4)], none⟩,
    ⟨some 12, .iaddr 1 (.tmp 9) (.tmp 11), none⟩,
    ⟨some 13, .load (.tmp 12) 1 false .plain, none⟩,
    ⟨some 14, .mov (.tmp 0), none⟩,
    ⟨some 15, .call 89 [true, false] [.tmp 14, .const (.int .i64 4)], none⟩,
    ⟨some 16, .mov (.tmp 0), none⟩,
    ⟨some 17, .call 89 [true, false] [.tmp 16, .const (.int .i64 3)], none⟩,
    ⟨some 18, .bslice 1 [.int .i64 0] 6 [(0, .const (.int .i64 0)), (1, .const (.int .i64 0)), (2, .const (.int .i64 0)), (3, .const (.int .i64 1)), (4, .const (.int .i64 3)), (5, .const (.int .i64 8))], none⟩,
    ⟨some 19, .mov (.tmp 0), none⟩,
    ⟨some 20, .call 89 [true, false] [.tmp 19, .const (.int .i64 6)], none⟩,
    ⟨some 21, .iaddr 1 (.tmp 18) (.tmp 20), none⟩,
    ⟨some 22, .load (.tmp 21) 1 false .plain, none⟩,
    ⟨some 23, .mov (.tmp 0), none⟩,
    ⟨some 24, .call 89 [true, false] [.tmp 23, .const (.int .i64 4)], none⟩,
    ⟨some 25, .build [.str ⟨#[]⟩, .int .i64 0, .str ⟨#[]⟩, .int .i64 0, .int .i64 0, .int .i64 0, .int .i64 0] [(0, 1, .tmp 5), (1, 1, .tmp 8), (2, 1, .tmp 13), (3, 1, .tmp 15), (4, 1, .tmp 17), (5, 1, .tmp 22), (6, 1, .tmp 24)], none⟩,
    ⟨none, .store (.tmp 4) (.tmp 25) 7, none⟩] [0, 0, 2, 6, 0, 0, 38, 118, 246, 0, 614, 0, 3686, 0, 0, 24166, 65126, 130662, 0, 319078, 1048575, 2097151] [4])
  .ret))⟩
-- spec.l2Spoil
def c88 : CFn := ⟨47, [.cell 4 11 true],
  (.seq (.region [
    ⟨some 3, .box (.tmp 1), none⟩,
    ⟨some 4, .alloc [.str ⟨#[]⟩, .int .i64 0, .str ⟨#[]⟩, .int .i64 0, .int .i64 0, .int .i64 0, .int .i64 0, .int .i64 0, .int .i64 0, .int .i64 0, .int .i64 0], none⟩] [0, 3, 4])
  (.seq (.seq (.region [
    ⟨some 5, .mov (.tmp 0), none⟩,
    ⟨some 6, .call 89 [true, false] [.tmp 5, .const (.int .i64 6)], none⟩] [0, 3, 4, 6])
  (.block 0
    (.seq (.region [
      ⟨some 10, .bin .eql (.tmp 6) (.const (.int .i64 0)), none⟩,
      ⟨some 9, .mov (.tmp 10), none⟩] [0, 3, 4, 6, 9])
    (.cond (.tmp 9)
      (.region [
        ⟨some 11, .mov (.tmp 0), none⟩,
        ⟨some 12, .faddr (.tmp 3) 0, none⟩,
        ⟨some 13, .load (.tmp 12) 7 true .plain, none⟩,
        ⟨some 14, .call 144 [true, false] [.tmp 11, .tmp 13], none⟩,
        ⟨some 15, .faddr (.tmp 3) 0, none⟩,
        ⟨none, .store (.tmp 15) (.tmp 14) 7, none⟩] [3, 4])
      (.seq (.region [
        ⟨some 17, .bin .eql (.tmp 6) (.const (.int .i64 1)), none⟩,
        ⟨some 16, .mov (.tmp 17), none⟩] [0, 3, 4, 6, 16])
      (.cond (.tmp 16)
        (.region [
          ⟨some 18, .mov (.tmp 0), none⟩,
          ⟨some 19, .call 89 [true, false] [.tmp 18, .const (.int .i64 9)], none⟩,
          ⟨some 20, .bin .sub (.tmp 19) (.const (.int .i64 1)), none⟩,
          ⟨some 21, .faddr (.tmp 3) 7, none⟩,
          ⟨none, .store (.tmp 21) (.tmp 20) 1, none⟩] [3, 4])
        (.seq (.region [
          ⟨some 23, .bin .eql (.tmp 6) (.const (.int .i64 2)), none⟩,
          ⟨some 22, .mov (.tmp 23), none⟩] [0, 3, 4, 6, 22])
        (.cond (.tmp 22)
          (.region [
            ⟨some 24, .bslice 1 [.int .i64 0] 3 [(0, .const (.int .i64 (-1))), (1, .const (.int .i64 100)), (2, .const (.int .i64 101))], none⟩,
            ⟨some 25, .mov (.tmp 0), none⟩,
            ⟨some 26, .call 89 [true, false] [.tmp 25, .const (.int .i64 3)], none⟩,
            ⟨some 27, .iaddr 1 (.tmp 24) (.tmp 26), none⟩,
            ⟨some 28, .load (.tmp 27) 1 false .plain, none⟩,
            ⟨some 29, .faddr (.tmp 3) 8, none⟩,
            ⟨none, .store (.tmp 29) (.tmp 28) 1, none⟩] [3, 4])
          (.seq (.region [
            ⟨some 31, .bin .eql (.tmp 6) (.const (.int .i64 3)), none⟩,
            ⟨some 30, .mov (.tmp 31), none⟩] [0, 3, 4, 6, 30])
          (.cond (.tmp 30)
            (.region [
              ⟨some 32, .bslice 1 [.int .i64 0] 3 [(0, .const (.int .i64 (-1))), (1, .const (.int .i64 1000)), (2, .const (.int .i64 1001))], none⟩,
              ⟨some 33, .mov (.tmp 0), none⟩,
              ⟨some 34, .call 89 [true, false] [.tmp 33, .const (.int .i64 3)], none⟩,
              ⟨some 35, .iaddr 1 (.tmp 32) (.tmp 34), none⟩,
              ⟨some 36, .load (.tmp 35) 1 false .plain, none⟩,
              ⟨some 37, .faddr (.tmp 3) 9, none⟩,
              ⟨none, .store (.tmp 37) (.tmp 36) 1, none⟩] [3, 4])
            (.seq (.region [
              ⟨some 39, .bin .eql (.tmp 6) (.const (.int .i64 4)), none⟩,
              ⟨some 38, .mov (.tmp 39), none⟩] [0, 3, 4, 38])
            (.cond (.tmp 38)
              (.region [
                ⟨some 40, .bslice 1 [.int .i64 0] 5 [(0, .const (.int .i64 (-1))), (1, .const (.int .i64 0)), (2, .const (.int .i64 1)), (3, .const (.int .i64 1000016)), (4, .const (.int .i64 1000017))], none⟩,
                ⟨some 41, .mov (.tmp 0), none⟩,
                ⟨some 42, .call 89 [true, false] [.tmp 41, .const (.int .i64 5)], none⟩,
                ⟨some 43, .iaddr 1 (.tmp 40) (.tmp 42), none⟩,
                ⟨some 44, .load (.tmp 43) 1 false .plain, none⟩,
                ⟨some 45, .faddr (.tmp 3) 10, none⟩,
                ⟨none, .store (.tmp 45) (.tmp 44) 1, none⟩] [3, 4])
              (.region [
                ⟨some 7, .faddr (.tmp 3) 0, none⟩,
                ⟨some 8, .faddr (.tmp 7) 2, none⟩,
                ⟨none, .store (.tmp 8) (.const (.str ⟨#[]⟩)) 1, none⟩] [3, 4])))))))))))))
  (.seq (.region [
    ⟨some 46, .load (.tmp 3) 11 true .plain, none⟩,
    ⟨none, .store (.tmp 4) (.tmp 46) 11, none⟩] [4])
  .ret)))⟩
-- (*spec.l1Rd).pick
def c89 : CFn := ⟨99, [.tmp 4],
  (.seq (.region [
    ⟨some 4, .mov (.const (.int .i64 0)), none⟩] [0, 1])
  (.seq (.region [
    ⟨some 7, .mov (.tmp 0), none⟩,
    ⟨some 8, .mov (.tmp 0), none⟩,
    ⟨some 9, .nilck (.tmp 8), none⟩,
    ⟨some 10, .faddr (.tmp 9) 1, none⟩,
    ⟨some 11, .load (.tmp 10) 1 false .plain, none⟩,
    ⟨some 12, .bin .add (.tmp 11) (.const (.int .i64 1)), none⟩,
    ⟨some 13, .nilck (.tmp 7), none⟩,
    ⟨some 14, .faddr (.tmp 13) 1, none⟩,
    ⟨none, .store (.tmp 14) (.tmp 12) 1, none⟩] [0, 1])
  (.seq (.seq (.region [
    ⟨some 15, .mov (.tmp 1), none⟩,
    ⟨some 16, .bin .lss (.tmp 15) (.const (.int .i64 1)), none⟩,
    ⟨some 17, .mov (.tmp 16), none⟩,
    ⟨some 18, .mov (.tmp 0), some (17, false)⟩,
    ⟨some 19, .nilck (.tmp 18), some (17, false)⟩,
    ⟨some 20, .faddr (.tmp 19) 0, some (17, false)⟩,
    ⟨some 21, .load (.tmp 20) 1 false .plain, some (17, false)⟩,
    ⟨some 22, .len false (.tmp 21), some (17, false)⟩,
    ⟨some 23, .bin .eql (.tmp 22) (.const (.int .i64 0)), some (17, false)⟩,
    ⟨some 24, .pick (.tmp 17) (.const (.bool true)) (.tmp 23), none⟩] [0, 1, 24])
  (.cond (.tmp 24)
    (.seq (.region [
      ⟨some 4, .mov (.const (.int .i64 0)), none⟩] [4])
    .ret)
    .skip))
  (.seq (.region [
    ⟨some 25, .mov (.tmp 0), none⟩,
    ⟨some 26, .nilck (.tmp 25), none⟩,
    ⟨some 27, .faddr (.tmp 26) 1, none⟩,
    ⟨some 28, .load (.tmp 27) 1 false .plain, none⟩,
    ⟨some 29, .bin .sub (.tmp 28) (.const (.int .i64 1)), none⟩,
    ⟨some 5, .mov (.tmp 29), none⟩] [0, 1, 5])
  (.seq (.seq (.region [
    ⟨some 30, .mov (.tmp 5), none⟩,
    ⟨some 31, .mov (.tmp 0), none⟩,
    ⟨some 32, .nilck (.tmp 31), none⟩,
    ⟨some 33, .faddr (.tmp 32) 0, none⟩,
    ⟨some 34, .load (.tmp 33) 1 false .plain, none⟩,
    ⟨some 35, .len false (.tmp 34), none⟩,
    ⟨some 36, .bin .lss (.tmp 30) (.tmp 35), none⟩] [0, 1, 5, 36])
  (.cond (.tmp 36)
    (.seq (.region [
      ⟨some 37, .mov (.tmp 0), none⟩,
      ⟨some 38, .nilck (.tmp 37), none⟩,
      ⟨some 39, .faddr (.tmp 38) 0, none⟩,
      ⟨some 40, .load (.tmp 39) 1 false .plain, none⟩,
      ⟨some 41, .mov (.tmp 5), none⟩,
      ⟨some 42, .iaddr 1 (.tmp 40) (.tmp 41), none⟩,
      ⟨some 43, .load (.tmp 42) 1 false .plain, none⟩,
      ⟨some 44, .conv .i64 (.tmp 43), none⟩,
      ⟨some 45, .mov (.tmp 1), none⟩,
      ⟨some 46, .bin .rem (.tmp 44) (.tmp 45), none⟩,
      ⟨some 4, .mov (.tmp 46), none⟩] [4])
    .ret)
    .skip))
  (.seq (.quiet [
    ⟨some 47, .mov (.tmp 0), none⟩,
    ⟨some 48, .nilck (.tmp 47), none⟩,
    ⟨some 49, .faddr (.tmp 48) 0, none⟩,
    ⟨some 50, .load (.tmp 49) 1 false .plain, none⟩,
    ⟨some 51, .mov (.tmp 5), none⟩,
    ⟨some 52, .mov (.tmp 0), none⟩,
    ⟨some 53, .nilck (.tmp 52), none⟩,
    ⟨some 54, .faddr (.tmp 53) 0, none⟩,
    ⟨some 55, .load (.tmp 54) 1 false .plain, none⟩,
    ⟨some 56, .len false (.tmp 55), none⟩,
    ⟨some 57, .bin .rem (.tmp 51) (.tmp 56), none⟩,
    ⟨some 58, .iaddr 1 (.tmp 50) (.tmp 57), none⟩,
    ⟨some 59, .load (.tmp 58) 1 false .plain, none⟩,
    ⟨some 60, .conv .i64 (.tmp 59), none⟩,
    ⟨some 61, .bin .mul (.tmp 60) (.const (.int .i64 131)), none⟩,
    ⟨some 62, .mov (.tmp 0), none⟩,
    ⟨some 63, .nilck (.tmp 62), none⟩,
    ⟨some 64, .faddr (.tmp 63) 0, none⟩,
    ⟨some 65, .load (.tmp 64) 1 false .plain, none⟩,
    ⟨some 66, .mov (.tmp 5), none⟩,
    ⟨some 67, .bin .mul (.tmp 66) (.const (.int .i64 7)), none⟩,
    ⟨some 68, .bin .add (.tmp 67) (.const (.int .i64 3)), none⟩,
    ⟨some 69, .mov (.tmp 0), none⟩,
    ⟨some 70, .nilck (.tmp 69), none⟩,
    ⟨some 71, .faddr (.tmp 70) 0, none⟩,
    ⟨some 72, .load (.tmp 71) 1 false .plain, none⟩,
    ⟨some 73, .len false (.tmp 72), none⟩,
    ⟨some 74, .bin .rem (.tmp 68) (.tmp 73), none⟩,
    ⟨some 75, .iaddr 1 (.tmp 65) (.tmp 74), none⟩,
    ⟨some 76, .load (.tmp 75) 1 false .plain, none⟩,
    ⟨some 77, .conv .i64 (.tmp 76), none⟩,
    ⟨some 78, .bin .mul (.tmp 77) (.const (.int .i64 1117)), none⟩,
    ⟨some 79, .bin .add (.tmp 61) (.tmp 78), none⟩,
    ⟨some 80, .mov (.tmp 5), none⟩,
    ⟨some 81, .bin .mul (.tmp 80) (.const (.int .i64 29)), none⟩,
    ⟨some 82, .bin .add (.tmp 79) (.tmp 81), none⟩,
    ⟨some 83, .mov (.tmp 5), none⟩,
    ⟨some 84, .mov (.tmp 0), none⟩,
    ⟨some 85, .nilck (.tmp 84), none⟩,
    ⟨some 86, .faddr (.tmp 85) 0, none⟩,
    ⟨some 87, .load (.tmp 86) 1 false .plain, none⟩,
    ⟨some 88, .len false (.tmp 87), none⟩,
    ⟨some 89, .bin .quo (.tmp 83) (.tmp 88), none⟩,
    ⟨some 90, .bin .mul (.tmp 89) (.const (.int .i64 53)), none⟩,
    ⟨some 91, .bin .add (.tmp 82) (.tmp 90), none⟩,
    ⟨some 6, .mov (.tmp 91), none⟩] [1, 6])
  (.seq (.region [
    ⟨some 92, .mov (.tmp 6), none⟩,
    ⟨some 93, .mov (.tmp 6), none⟩,
    ⟨some 94, .bin .quo (.tmp 93) (.const (.int .i64 64)), none⟩,
    ⟨some 95, .bin .xor (.tmp 92) (.tmp 94), none⟩,
    ⟨some 6, .mov (.tmp 95), none⟩] [1, 6])
  (.seq (.region [
    ⟨some 96, .mov (.tmp 6), none⟩,
    ⟨some 97, .mov (.tmp 1), none⟩,
    ⟨some 98, .bin .rem (.tmp 96) (.tmp 97), none⟩,
    ⟨some 4, .mov (.tmp 98), none⟩] [4])
  .ret))))))))⟩
-- spec.l2Draw
def c90 : CFn := ⟨38, [.cell 6 11 true],
  (.seq (.region [
    ⟨some 6, .alloc [.str ⟨#[]⟩, .int .i64 0, .str ⟨#[]⟩, .int .i64 0, .int .i64 0, .int .i64 0, .int .i64 0, .int .i64 0, .int .i64 0, .int .i64 0, .int .i64 0], none⟩] [0, 1, 2, 6])
  (.seq (.region [
    ⟨some 8, .mov (.tmp 0), none⟩,
    ⟨some 9, .mov (.tmp 1), none⟩,
    ⟨some 10, .call 87 [true, false] [.tmp 8, .tmp 9], none⟩,
    ⟨some 11, .mov (.tmp 0), none⟩,
    ⟨some 12, .call 89 [true, false] [.tmp 11, .const (.int .i64 6)], none⟩,
    ⟨some 13, .bin .add (.const (.int .i64 1)) (.tmp 12), none⟩,
    ⟨some 14, .mov (.tmp 0), none⟩,
    ⟨some 15, .call 89 [true, false] [.tmp 14, .const (.int .i64 5)], none⟩,
    ⟨some 16, .mov (.tmp 0), none⟩,
    ⟨some 17, .call 89 [true, false] [.tmp 16, .const (.int .i64 6)], none⟩,
    ⟨some 18, .build [.str ⟨#[]⟩, .int .i64 0, .str ⟨#[]⟩, .int .i64 0, .int .i64 0, .int .i64 0, .int .i64 0, .int .i64 0, .int .i64 0, .int .i64 0, .int .i64 0] [(0, 7, .tmp 10), (7, 1, .tmp 13), (8, 1, .tmp 15), (9, 1, .tmp 17)], none⟩,
    ⟨some 7, .alloc [.str ⟨#[]⟩, .int .i64 0, .str ⟨#[]⟩, .int .i64 0, .int .i64 0, .int .i64 0, .int .i64 0, .int .i64 0, .int .i64 0, .int .i64 0, .int .i64 0], none⟩,
    ⟨none, .store (.tmp 7) (.tmp 18) 11, none⟩] [0, 2, 6, 7])
  (.seq (.seq (.region [
    ⟨some 19, .faddr (.tmp 7) 0, none⟩,
    ⟨some 20, .faddr (.tmp 19) 2, none⟩,
    ⟨some 21, .load (.tmp 20) 1 false .plain, none⟩,
    ⟨some 22, .bin .neq (.tmp 21) (.const (.str ⟨#[]⟩)), none⟩] [0, 2, 6, 7, 22])
  (.cond (.tmp 22)
    (.seq (.region [
      ⟨some 23, .mov (.tmp 2), none⟩,
      ⟨some 24, .mov (.tmp 0), none⟩,
      ⟨some 25, .call 89 [true, false] [.tmp 24, .const (.int .i64 14)], none⟩,
      ⟨some 26, .bin .add (.tmp 23) (.tmp 25), none⟩,
      ⟨some 27, .bin .sub (.tmp 26) (.const (.int .i64 4)), none⟩,
      ⟨some 28, .faddr (.tmp 7) 10, none⟩,
      ⟨none, .store (.tmp 28) (.tmp 27) 1, none⟩] [6, 7])
    (.seq (.region [
      ⟨some 29, .faddr (.tmp 7) 10, none⟩,
      ⟨some 30, .load (.tmp 29) 1 false .plain, none⟩,
      ⟨some 31, .bin .lss (.tmp 30) (.const (.int .i64 0)), none⟩] [6, 7, 31])
    (.cond (.tmp 31)
      (.region [
        ⟨some 32, .faddr (.tmp 7) 10, none⟩,
        ⟨none, .store (.tmp 32) (.const (.int .i64 0)) 1, none⟩] [6, 7])
      .skip)))
    .skip))
  (.seq (.seq (.region [
    ⟨some 33, .faddr (.tmp 7) 7, none⟩,
    ⟨some 34, .load (.tmp 33) 1 false .plain, none⟩,
    ⟨some 35, .bin .eql (.tmp 34) (.const (.int .i64 2)), none⟩] [6, 7, 35])
  (.cond (.tmp 35)
    (.region [
      ⟨some 36, .faddr (.tmp 7) 8, none⟩,
      ⟨none, .store (.tmp 36) (.const (.int .i64 0)) 1, none⟩] [6, 7])
    .skip))
  (.seq (.region [
    ⟨some 37, .load (.tmp 7) 11 true .plain, none⟩,
    ⟨none, .store (.tmp 6) (.tmp 37) 11, none⟩] [6])
  .ret)))))⟩
-- spec.l1Open
def c91 : CFn := ⟨11, [.tmp 2],
  (.seq (.region [
    ⟨some 2, .mov (.const (.any)), none⟩] [0])
  (.seq (.seq (.region [
    ⟨some 3, .mov (.tmp 0), none⟩,
    ⟨some 4, .len false (.tmp 3), none⟩,
    ⟨some 5, .bin .gtr (.tmp 4) (.const (.int .i64 2000)), none⟩] [0, 5])
  (.cond (.tmp 5)
    (.region [
      ⟨some 6, .mov (.tmp 0), none⟩,
      ⟨some 7, .slice 1 (.tmp 6) none (some (.const (.int .i64 2000))), none⟩,
      ⟨some 0, .mov (.tmp 7), none⟩] [0])
    .skip))
  (.seq (.region [
    ⟨some 8, .mov (.tmp 0), none⟩,
    ⟨some 9, .build [.sl .own 1 [], .int .i64 0] [(0, 1, .tmp 8)], none⟩,
    ⟨some 10, .box (.tmp 9), none⟩,
    ⟨some 2, .mov (.tmp 10), none⟩] [2])
  .ret)))⟩
-- impl.begin
def c92 : CFn := ⟨24, [.cell 4 11 true],
  (.seq (.region [
    ⟨some 2, .box (.tmp 0), none⟩,
    ⟨some 4, .alloc [.str ⟨#[]⟩, .int .i64 0, .str ⟨#[]⟩, .int .i64 0, .int .i64 0, .int .i64 0, .int .i64 0, .int .i64 0, .int .i64 0, .int .i64 0, .int .i64 0], none⟩] [1, 2, 4])
  (.seq (.region [
    ⟨some 5, .faddr (.tmp 2) 7, none⟩,
    ⟨none, .store (.tmp 5) (.const (.int .i64 2)) 1, none⟩,
    ⟨some 6, .faddr (.tmp 2) 8, none⟩,
    ⟨none, .store (.tmp 6) (.const (.int .i64 0)) 1, none⟩] [1, 2, 4])
  (.seq (.seq (.region [
    ⟨some 7, .faddr (.tmp 2) 0, none⟩,
    ⟨some 8, .faddr (.tmp 7) 2, none⟩,
    ⟨some 9, .load (.tmp 8) 1 false .plain, none⟩,
    ⟨some 10, .bin .eql (.tmp 9) (.const (.str ⟨#[]⟩)), none⟩,
    ⟨some 11, .mov (.tmp 10), none⟩,
    ⟨some 12, .faddr (.tmp 2) 10, some (11, false)⟩,
    ⟨some 13, .load (.tmp 12) 1 false .plain, some (11, false)⟩,
    ⟨some 14, .mov (.tmp 1), some (11, false)⟩,
    ⟨some 15, .bin .add (.tmp 14) (.const (.int .i64 4)), some (11, false)⟩,
    ⟨some 16, .bin .geq (.tmp 13) (.tmp 15), some (11, false)⟩,
    ⟨some 17, .pick (.tmp 11) (.const (.bool true)) (.tmp 16), none⟩] [2, 4, 17])
  (.cond (.tmp 17)
    (.region [
      ⟨some 18, .faddr (.tmp 2) 0, none⟩,
      ⟨some 19, .faddr (.tmp 18) 4, none⟩,
      ⟨some 20, .load (.tmp 19) 1 false .plain, none⟩,
      ⟨some 21, .faddr (.tmp 2) 7, none⟩,
      ⟨none, .store (.tmp 21) (.const (.int .i64 3)) 1, none⟩,
      ⟨some 22, .faddr (.tmp 2) 8, none⟩,
      ⟨none, .store (.tmp 22) (.tmp 20) 1, none⟩] [2, 4])
    .skip))
  (.seq (.region [
    ⟨some 23, .load (.tmp 2) 11 true .plain, none⟩,
    ⟨none, .store (.tmp 4) (.tmp 23) 11, none⟩] [4])
  .ret))))⟩
-- spec.l3Dies
def c93b0 : CCode := (.seq (.seq (.region [
    ⟨some 13, .mov (.tmp 3), none⟩,
    ⟨some 14, .faddr (.tmp 1) 9, none⟩,
    ⟨some 15, .load (.tmp 14) 1 false .plain, none⟩,
    ⟨some 16, .bin .lss (.tmp 13) (.tmp 15), none⟩,
    ⟨some 17, .mov (.tmp 16), none⟩,
    ⟨some 18, .faddr (.tmp 1) 8, some (17, true)⟩,
    ⟨some 19, .load (.tmp 18) 1 false .plain, some (17, true)⟩,
    ⟨some 20, .bin .lss (.tmp 19) (.const (.int .i64 16)), some (17, true)⟩,
    ⟨some 21, .pick (.tmp 17) (.tmp 20) (.const (.bool false)), none⟩] [1, 2, 3, 21])
  (.cond (.tmp 21)
    .skip
    (.exit 0)))
  (.seq (.block 1
    (.region [
      ⟨some 24, .faddr (.tmp 1) 8, none⟩,
      ⟨some 25, .load (.tmp 24) 1 false .plain, none⟩,
      ⟨some 26, .bin .mul (.const (.int .i64 2)) (.tmp 25), none⟩,
      ⟨some 27, .faddr (.tmp 1) 8, none⟩,
      ⟨none, .store (.tmp 27) (.tmp 26) 1, none⟩] [1, 2, 3]))
  (.region [
    ⟨some 22, .mov (.tmp 3), none⟩,
    ⟨some 23, .bin .add (.tmp 22) (.const (.int .i64 1)), none⟩,
    ⟨some 3, .mov (.tmp 23), none⟩] [1, 2, 3])))
def c93 : CFn := ⟨29, [.cell 2 11 true],
  (.seq (.region [
    ⟨some 1, .box (.tmp 0), none⟩,
    ⟨some 2, .alloc [.str ⟨#[]⟩, .int .i64 0, .str ⟨#[]⟩, .int .i64 0, .int .i64 0, .int .i64 0, .int .i64 0, .int .i64 0, .int .i64 0, .int .i64 0, .int .i64 0], none⟩] [1, 2])
  (.seq (.seq (.region [
    ⟨some 4, .faddr (.tmp 1) 9, none⟩,
    ⟨some 5, .load (.tmp 4) 1 false .plain, none⟩,
    ⟨some 6, .bin .lss (.tmp 5) (.const (.int .i64 1000)), none⟩] [1, 2, 6])
  (.cond (.tmp 6)
    (.region [
      ⟨some 7, .faddr (.tmp 1) 9, none⟩,
      ⟨some 8, .load (.tmp 7) 1 false .plain, none⟩,
      ⟨some 9, .bin .add (.tmp 8) (.const (.int .i64 1)), none⟩,
      ⟨some 10, .faddr (.tmp 1) 9, none⟩,
      ⟨none, .store (.tmp 10) (.tmp 9) 1, none⟩] [1, 2])
    .skip))
  (.seq (.region [
    ⟨some 11, .faddr (.tmp 1) 7, none⟩,
    ⟨none, .store (.tmp 11) (.const (.int .i64 5)) 1, none⟩] [1, 2])
  (.seq (.region [
    ⟨some 12, .faddr (.tmp 1) 8, none⟩,
    ⟨none, .store (.tmp 12) (.const (.int .i64 1)) 1, none⟩] [1, 2])
  (.seq (.seq (.region [
    ⟨some 3, .mov (.const (.int .i64 0)), none⟩] [1, 2, 3])
  (.block 0
    (.loop [1, 2, 3] c93b0)))
  (.seq (.region [
    ⟨some 28, .load (.tmp 1) 11 true .plain, none⟩,
    ⟨none, .store (.tmp 2) (.tmp 28) 11, none⟩] [2])
  .ret))))))⟩
-- spec.l3Begin
def c94 : CFn := ⟨16, [.cell 4 11 true],
  (.seq (.region [
    ⟨some 2, .box (.tmp 0), none⟩,
    ⟨some 4, .alloc [.str ⟨#[]⟩, .int .i64 0, .str ⟨#[]⟩, .int .i64 0, .int .i64 0, .int .i64 0, .int .i64 0, .int .i64 0, .int .i64 0, .int .i64 0, .int .i64 0], none⟩] [1, 2, 4])
  (.seq (.region [
    ⟨some 5, .faddr (.tmp 2) 7, none⟩,
    ⟨none, .store (.tmp 5) (.const (.int .i64 2)) 1, none⟩] [1, 2, 4])
  (.seq (.region [
    ⟨some 6, .faddr (.tmp 2) 8, none⟩,
    ⟨none, .store (.tmp 6) (.const (.int .i64 0)) 1, none⟩] [1, 2, 4])
  (.seq (.seq (.region [
    ⟨some 7, .load (.tmp 2) 11 true .plain, none⟩,
    ⟨some 8, .mov (.tmp 1), none⟩,
    ⟨some 9, .call 95 [false, false] [.tmp 7, .tmp 8], none⟩] [2, 4, 9])
  (.cond (.tmp 9)
    (.seq (.region [
      ⟨some 10, .faddr (.tmp 2) 7, none⟩,
      ⟨none, .store (.tmp 10) (.const (.int .i64 3)) 1, none⟩] [2, 4])
    (.region [
      ⟨some 11, .faddr (.tmp 2) 0, none⟩,
      ⟨some 12, .faddr (.tmp 11) 4, none⟩,
      ⟨some 13, .load (.tmp 12) 1 false .plain, none⟩,
      ⟨some 14, .faddr (.tmp 2) 8, none⟩,
      ⟨none, .store (.tmp 14) (.tmp 13) 1, none⟩] [2, 4]))
    .skip))
  (.seq (.region [
    ⟨some 15, .load (.tmp 2) 11 true .plain, none⟩,
    ⟨none, .store (.tmp 4) (.tmp 15) 11, none⟩] [4])
  .ret)))))⟩
-- spec.l2Leased
def c95 : CFn := ⟨16, [.tmp 4],
  (.seq (.region [
    ⟨some 2, .box (.tmp 0), none⟩,
    ⟨some 4, .mov (.const (.bool false)), none⟩] [1, 2])
  (.seq (.region [
    ⟨some 5, .faddr (.tmp 2) 0, none⟩,
    ⟨some 6, .faddr (.tmp 5) 2, none⟩,
    ⟨some 7, .load (.tmp 6) 1 false .plain, none⟩,
    ⟨some 8, .bin .eql (.tmp 7) (.const (.str ⟨#[]⟩)), none⟩,
    ⟨some 9, .mov (.tmp 8), none⟩,
    ⟨some 10, .faddr (.tmp 2) 10, some (9, false)⟩,
    ⟨some 11, .load (.tmp 10) 1 false .plain, some (9, false)⟩,
    ⟨some 12, .mov (.tmp 1), some (9, false)⟩,
    ⟨some 13, .bin .add (.tmp 12) (.const (.int .i64 4)), some (9, false)⟩,
    ⟨some 14, .bin .geq (.tmp 11) (.tmp 13), some (9, false)⟩,
    ⟨some 15, .pick (.tmp 9) (.const (.bool true)) (.tmp 14), none⟩,
    ⟨some 4, .mov (.tmp 15), none⟩] [4])
  .ret))⟩
-- spec.l1SpoilWant
def c144 : CFn := ⟨66, [.cell 4 7 true],
  (.seq (.region [
    ⟨some 3, .box (.tmp 1), none⟩,
    ⟨some 4, .alloc [.str ⟨#[]⟩, .int .i64 0, .str ⟨#[]⟩, .int .i64 0, .int .i64 0, .int .i64 0, .int .i64 0], none⟩] [0, 3, 4])
  (.seq (.seq (.region [
    ⟨some 5, .mov (.tmp 0), none⟩,
    ⟨some 6, .call 89 [true, false] [.tmp 5, .const (.int .i64 7)], none⟩] [0, 3, 4, 6])
  (.block 0
    (.seq (.region [
      ⟨some 14, .bin .eql (.tmp 6) (.const (.int .i64 0)), none⟩,
      ⟨some 13, .mov (.tmp 14), none⟩] [0, 3, 4, 6, 13])
    (.cond (.tmp 13)
      (.region [
        ⟨some 15, .mov (.tmp 0), none⟩,
        ⟨some 16, .call 89 [true, false] [.tmp 15, .const (.int .i64 2)], none⟩,
        ⟨some 17, .bin .add (.const (.int .i64 20)) (.tmp 16), none⟩,
        ⟨some 18, .call 160 [false, false] [.const (.str ⟨#[110]⟩), .tmp 17], none⟩,
        ⟨some 19, .bslice 1 [.str ⟨#[]⟩] 3 [(0, .const (.str ⟨#[]⟩)), (1, .const (.str ⟨#[120, 32, 121]⟩)), (2, .tmp 18)], none⟩,
        ⟨some 20, .mov (.tmp 0), none⟩,
        ⟨some 21, .call 89 [true, false] [.tmp 20, .const (.int .i64 3)], none⟩,
        ⟨some 22, .iaddr 1 (.tmp 19) (.tmp 21), none⟩,
        ⟨some 23, .load (.tmp 22) 1 false .plain, none⟩,
        ⟨some 24, .faddr (.tmp 3) 0, none⟩,
        ⟨none, .store (.tmp 24) (.tmp 23) 1, none⟩] [3, 4])
      (.seq (.region [
        ⟨some 26, .bin .eql (.tmp 6) (.const (.int .i64 1)), none⟩,
        ⟨some 25, .mov (.tmp 26), none⟩] [0, 3, 4, 6, 25])
      (.cond (.tmp 25)
        (.region [
          ⟨some 27, .bslice 1 [.int .i64 0] 3 [(0, .const (.int .i64 0)), (1, .const (.int .i64 1000000)), (2, .const (.int .i64 1000001))], none⟩,
          ⟨some 28, .mov (.tmp 0), none⟩,
          ⟨some 29, .call 89 [true, false] [.tmp 28, .const (.int .i64 3)], none⟩,
          ⟨some 30, .iaddr 1 (.tmp 27) (.tmp 29), none⟩,
          ⟨some 31, .load (.tmp 30) 1 false .plain, none⟩,
          ⟨some 32, .faddr (.tmp 3) 1, none⟩,
          ⟨none, .store (.tmp 32) (.tmp 31) 1, none⟩] [3, 4])
        (.seq (.region [
          ⟨some 34, .bin .eql (.tmp 6) (.const (.int .i64 2)), none⟩,
          ⟨some 33, .mov (.tmp 34), none⟩] [0, 3, 4, 6, 33])
        (.cond (.tmp 33)
          (.region [
            ⟨some 35, .bslice 1 [.str ⟨#[]⟩] 3 [(0, .const (.str ⟨#[120, 32, 121]⟩)), (1, .const (.str ⟨#[42]⟩)), (2, .const (.str ⟨#[118, 111, 108]⟩))], none⟩,
            ⟨some 36, .mov (.tmp 0), none⟩,
            ⟨some 37, .call 89 [true, false] [.tmp 36, .const (.int .i64 3)], none⟩,
            ⟨some 38, .iaddr 1 (.tmp 35) (.tmp 37), none⟩,
            ⟨some 39, .load (.tmp 38) 1 false .plain, none⟩,
            ⟨some 40, .faddr (.tmp 3) 2, none⟩,
            ⟨none, .store (.tmp 40) (.tmp 39) 1, none⟩] [3, 4])
          (.seq (.region [
            ⟨some 42, .bin .eql (.tmp 6) (.const (.int .i64 3)), none⟩,
            ⟨some 41, .mov (.tmp 42), none⟩] [0, 3, 4, 6, 41])
          (.cond (.tmp 41)
            (.region [
              ⟨some 43, .bslice 1 [.int .i64 0] 3 [(0, .const (.int .i64 (-1))), (1, .const (.int .i64 100)), (2, .const (.int .i64 101))], none⟩,
              ⟨some 44, .mov (.tmp 0), none⟩,
              ⟨some 45, .call 89 [true, false] [.tmp 44, .const (.int .i64 3)], none⟩,
              ⟨some 46, .iaddr 1 (.tmp 43) (.tmp 45), none⟩,
              ⟨some 47, .load (.tmp 46) 1 false .plain, none⟩,
              ⟨some 48, .faddr (.tmp 3) 3, none⟩,
              ⟨none, .store (.tmp 48) (.tmp 47) 1, none⟩] [3, 4])
            (.seq (.region [
              ⟨some 50, .bin .eql (.tmp 6) (.const (.int .i64 4)), none⟩,
              ⟨some 49, .mov (.tmp 50), none⟩] [0, 3, 4, 6, 49])
            (.cond (.tmp 49)
              (.region [
                ⟨some 51, .bslice 1 [.int .i64 0] 3 [(0, .const (.int .i64 (-1))), (1, .const (.int .i64 100)), (2, .const (.int .i64 101))], none⟩,
                ⟨some 52, .mov (.tmp 0), none⟩,
                ⟨some 53, .call 89 [true, false] [.tmp 52, .const (.int .i64 3)], none⟩,
                ⟨some 54, .iaddr 1 (.tmp 51) (.tmp 53), none⟩,
                ⟨some 55, .load (.tmp 54) 1 false .plain, none⟩,
                ⟨some 56, .faddr (.tmp 3) 4, none⟩,
                ⟨none, .store (.tmp 56) (.tmp 55) 1, none⟩] [3, 4])
              (.seq (.region [
                ⟨some 58, .bin .eql (.tmp 6) (.const (.int .i64 5)), none⟩,
                ⟨some 57, .mov (.tmp 58), none⟩] [0, 3, 4, 57])
              (.cond (.tmp 57)
                (.region [
                  ⟨some 59, .bslice 1 [.int .i64 0] 3 [(0, .const (.int .i64 (-1))), (1, .const (.int .i64 100)), (2, .const (.int .i64 101))], none⟩,
                  ⟨some 60, .mov (.tmp 0), none⟩,
                  ⟨some 61, .call 89 [true, false] [.tmp 60, .const (.int .i64 3)], none⟩,
                  ⟨some 62, .iaddr 1 (.tmp 59) (.tmp 61), none⟩,
                  ⟨some 63, .load (.tmp 62) 1 false .plain, none⟩,
                  ⟨some 64, .faddr (.tmp 3) 5, none⟩,
                  ⟨none, .store (.tmp 64) (.tmp 63) 1, none⟩] [3, 4])
                (.region [
                  ⟨some 7, .bslice 1 [.int .i64 0] 3 [(0, .const (.int .i64 (-1))), (1, .const (.int .i64 100)), (2, .const (.int .i64 101))], none⟩,
                  ⟨some 8, .mov (.tmp 0), none⟩,
                  ⟨some 9, .call 89 [true, false] [.tmp 8, .const (.int .i64 3)], none⟩,
                  ⟨some 10, .iaddr 1 (.tmp 7) (.tmp 9), none⟩,
                  ⟨some 11, .load (.tmp 10) 1 false .plain, none⟩,
                  ⟨some 12, .faddr (.tmp 3) 6, none⟩,
                  ⟨none, .store (.tmp 12) (.tmp 11) 1, none⟩] [3, 4])))))))))))))))
  (.seq (.region [
    ⟨some 65, .load (.tmp 3) 7 true .plain, none⟩,
    ⟨none, .store (.tmp 4) (.tmp 65) 7, none⟩] [4])
  .ret)))⟩
-- spec.l1Many
def c160b0 : CCode := (.seq (.seq (.region [
    ⟨some 6, .mov (.tmp 1), none⟩,
    ⟨some 7, .bin .gtr (.tmp 6) (.const (.int .i64 0)), none⟩] [0, 1, 5, 7])
  (.cond (.tmp 7)
    .skip
    (.exit 0)))
  (.block 1
    (.seq (.seq (.region [
      ⟨some 8, .mov (.tmp 1), none⟩,
      ⟨some 9, .bin .rem (.tmp 8) (.const (.int .i64 2)), none⟩,
      ⟨some 10, .bin .eql (.tmp 9) (.const (.int .i64 1)), none⟩] [0, 1, 5, 10])
    (.cond (.tmp 10)
      (.region [
        ⟨some 11, .mov (.tmp 5), none⟩,
        ⟨some 12, .mov (.tmp 0), none⟩,
        ⟨some 13, .bin .add (.tmp 11) (.tmp 12), none⟩,
        ⟨some 5, .mov (.tmp 13), none⟩] [0, 1, 5])
      .skip))
    (.seq (.region [
      ⟨some 14, .mov (.tmp 0), none⟩,
      ⟨some 15, .mov (.tmp 0), none⟩,
      ⟨some 16, .bin .add (.tmp 14) (.tmp 15), none⟩,
      ⟨some 0, .mov (.tmp 16), none⟩] [0, 1, 5])
    (.region [
      ⟨some 17, .mov (.tmp 1), none⟩,
      ⟨some 18, .bin .quo (.tmp 17) (.const (.int .i64 2)), none⟩,
      ⟨some 1, .mov (.tmp 18), none⟩] [0, 1, 5])))))
def c160 : CFn := ⟨20, [.tmp 4],
  (.seq (.region [
    ⟨some 4, .mov (.const (.str ⟨#[]⟩)), none⟩] [0, 1])
  (.seq (.region [
    ⟨some 5, .mov (.const (.str ⟨#[]⟩)), none⟩] [0, 1, 5])
  (.seq (.block 0
    (.loop [0, 1, 5] c160b0))
  (.seq (.region [
    ⟨some 19, .mov (.tmp 5), none⟩,
    ⟨some 4, .mov (.tmp 19), none⟩] [4])
  .ret))))⟩
-- laws.FnStops
def c167b0 : CCode := (.seq (.seq (.region [
    ⟨some 80, .mov (.tmp 11), none⟩,
    ⟨some 81, .faddr (.tmp 3) 0, none⟩,
    ⟨some 82, .faddr (.tmp 81) 6, none⟩,
    ⟨some 83, .load (.tmp 82) 1 false .plain, none⟩,
    ⟨some 84, .bin .add (.tmp 83) (.const (.int .i64 2)), none⟩,
    ⟨some 85, .bin .lss (.tmp 80) (.tmp 84), none⟩] [3, 6, 7, 11, 85])
  (.cond (.tmp 85)
    .skip
    (.exit 0)))
  (.seq (.block 1
    (.seq (.region [
      ⟨some 89, .load (.tmp 7) 11 true .plain, none⟩,
      ⟨some 90, .build [.str ⟨#[]⟩, .int .i64 0, .str ⟨#[]⟩, .int .i64 0, .int .i64 0, .int .i64 0, .int .i64 0] [], none⟩,
      ⟨some 91, .mov (.tmp 6), none⟩,
      ⟨some 92, .mov (.tmp 11), none⟩,
      ⟨some 93, .bin .add (.tmp 91) (.tmp 92), none⟩,
      ⟨some 94, .call 14 [false, false, false, false] [.tmp 89, .tmp 90, .const (.bool false), .tmp 93], none⟩,
      ⟨some 88, .mov (.tmp 94), none⟩,
      ⟨some 95, .ext (.tmp 88) 0, none⟩,
      ⟨some 96, .ext (.tmp 88) 1, none⟩,
      ⟨none, .store (.tmp 7) (.tmp 95) 11, none⟩,
      ⟨some 8, .mov (.tmp 96), none⟩] [3, 6, 7, 8, 11])
    (.seq (.seq (.region [
      ⟨some 97, .mov (.tmp 8), none⟩,
      ⟨some 98, .un .not (.tmp 97), none⟩] [3, 6, 7, 11, 98])
    (.cond (.tmp 98)
      (.seq (.region [
        ⟨some 99, .load (.tmp 7) 11 true .plain, none⟩,
        ⟨some 100, .build [.str ⟨#[]⟩, .int .i64 0, .str ⟨#[]⟩, .int .i64 0, .int .i64 0, .int .i64 0, .int .i64 0, .int .i64 0, .int .i64 0, .int .i64 0, .int .i64 0] [], none⟩,
        ⟨some 101, .eqs false [.s, .i, .s, .i, .i, .i, .i, .i, .i, .i, .i] (.tmp 99) (.tmp 100), none⟩,
        ⟨some 2, .mov (.tmp 101), none⟩] [2])
      .ret)
      .skip))
    (.seq (.region [
      ⟨some 102, .faddr (.tmp 7) 7, none⟩,
      ⟨some 103, .load (.tmp 102) 1 false .plain, none⟩,
      ⟨some 104, .bin .neq (.tmp 103) (.const (.int .i64 6)), none⟩,
      ⟨some 105, .mov (.tmp 104), none⟩,
      ⟨some 106, .faddr (.tmp 7) 0, some (105, false)⟩,
      ⟨some 107, .load (.tmp 106) 7 true .plain, some (105, false)⟩,
      ⟨some 108, .faddr (.tmp 3) 0, some (105, false)⟩,
      ⟨some 109, .load (.tmp 108) 7 true .plain, some (105, false)⟩,
      ⟨some 110, .eqs true [.s, .i, .s, .i, .i, .i, .i] (.tmp 107) (.tmp 109), some (105, false)⟩,
      ⟨some 111, .pick (.tmp 105) (.const (.bool true)) (.tmp 110), none⟩] [3, 6, 7, 11, 111])
    (.cond (.tmp 111)
      (.seq (.region [
        ⟨some 2, .mov (.const (.bool false)), none⟩] [2])
      .ret)
      .skip)))))
  (.region [
    ⟨some 86, .mov (.tmp 11), none⟩,
    ⟨some 87, .bin .add (.tmp 86) (.const (.int .i64 1)), none⟩,
    ⟨some 11, .mov (.tmp 87), none⟩] [3, 6, 7, 11])))
def c167 : CFn := ⟨112, [.tmp 2],
  (.seq (.region [
    ⟨some 2, .mov (.const (.bool false)), none⟩] [0])
  (.seq (.seq (.region [
    ⟨some 12, .mov (.tmp 0), none⟩,
    ⟨some 13, .len false (.tmp 12), none⟩,
    ⟨some 14, .bin .gtr (.tmp 13) (.const (.int .i64 1048576)), none⟩] [0, 14])
  (.cond (.tmp 14)
    (.seq (.region [
      ⟨some 2, .mov (.const (.bool true)), none⟩] [2])
    .ret)
    .skip))
  (.seq (.region [
    ⟨some 16, .mov (.tmp 0), none⟩,
    ⟨some 17, .call 16 [false] [.tmp 16], none⟩,
    ⟨some 15, .mov (.tmp 17), none⟩,
    ⟨some 18, .ext (.tmp 15) 0, none⟩,
    ⟨some 19, .ext (.tmp 15) 1, none⟩,
    ⟨some 20, .ext (.tmp 15) 2, none⟩,
    ⟨some 21, .ext (.tmp 15) 3, none⟩,
    ⟨some 3, .alloc [.str ⟨#[]⟩, .int .i64 0, .str ⟨#[]⟩, .int .i64 0, .int .i64 0, .int .i64 0, .int .i64 0, .int .i64 0, .int .i64 0, .int .i64 0, .int .i64 0], none⟩,
    ⟨some 4, .alloc [.str ⟨#[]⟩, .int .i64 0, .str ⟨#[]⟩, .int .i64 0, .int .i64 0, .int .i64 0, .int .i64 0], none⟩,
    ⟨none, .store (.tmp 3) (.tmp 18) 11, none⟩,
    ⟨none, .store (.tmp 4) (.tmp 19) 7, none⟩,
    ⟨some 5, .mov (.tmp 20), none⟩,
    ⟨some 6, .mov (.tmp 21), none⟩] [3, 4, 5, 6])
  (.seq (.region [
    ⟨some 23, .load (.tmp 3) 11 true .plain, none⟩,
    ⟨some 24, .load (.tmp 4) 7 true .plain, none⟩,
    ⟨some 25, .mov (.tmp 5), none⟩,
    ⟨some 26, .mov (.tmp 6), none⟩,
    ⟨some 27, .call 14 [false, false, false, false] [.tmp 23, .tmp 24, .tmp 25, .tmp 26], none⟩,
    ⟨some 22, .mov (.tmp 27), none⟩,
    ⟨some 28, .ext (.tmp 22) 0, none⟩,
    ⟨some 29, .ext (.tmp 22) 1, none⟩,
    ⟨some 7, .alloc [.str ⟨#[]⟩, .int .i64 0, .str ⟨#[]⟩, .int .i64 0, .int .i64 0, .int .i64 0, .int .i64 0, .int .i64 0, .int .i64 0, .int .i64 0, .int .i64 0], none⟩,
    ⟨none, .store (.tmp 7) (.tmp 28) 11, none⟩,
    ⟨some 8, .mov (.tmp 29), none⟩] [3, 4, 5, 6, 7, 8])
  (.seq (.region [
    ⟨some 31, .load (.tmp 3) 11 true .plain, none⟩,
    ⟨some 32, .load (.tmp 4) 7 true .plain, none⟩,
    ⟨some 33, .mov (.tmp 5), none⟩,
    ⟨some 34, .mov (.tmp 6), none⟩,
    ⟨some 35, .call 15 [false, false, false, false] [.tmp 31, .tmp 32, .tmp 33, .tmp 34], none⟩,
    ⟨some 30, .mov (.tmp 35), none⟩,
    ⟨some 36, .ext (.tmp 30) 0, none⟩,
    ⟨some 37, .ext (.tmp 30) 1, none⟩,
    ⟨some 9, .alloc [.str ⟨#[]⟩, .int .i64 0, .str ⟨#[]⟩, .int .i64 0, .int .i64 0, .int .i64 0, .int .i64 0, .int .i64 0, .int .i64 0, .int .i64 0, .int .i64 0], none⟩,
    ⟨none, .store (.tmp 9) (.tmp 36) 11, none⟩,
    ⟨some 10, .mov (.tmp 37), none⟩] [3, 6, 7, 8, 9, 10])
  (.seq (.seq (.region [
    ⟨some 38, .mov (.tmp 8), none⟩,
    ⟨some 39, .mov (.tmp 10), none⟩,
    ⟨some 40, .beq true (.tmp 38) (.tmp 39), none⟩,
    ⟨some 41, .mov (.tmp 40), none⟩,
    ⟨some 42, .load (.tmp 7) 11 true .plain, some (41, false)⟩,
    ⟨some 43, .load (.tmp 9) 11 true .plain, some (41, false)⟩,
    ⟨some 44, .eqs true [.s, .i, .s, .i, .i, .i, .i, .i, .i, .i, .i] (.tmp 42) (.tmp 43), some (41, false)⟩,
    ⟨some 45, .pick (.tmp 41) (.const (.bool true)) (.tmp 44), none⟩] [3, 6, 7, 45])
  (.cond (.tmp 45)
    (.seq (.region [
      ⟨some 2, .mov (.const (.bool false)), none⟩] [2])
    .ret)
    .skip))
  (.seq (.seq (.region [
    ⟨some 46, .faddr (.tmp 3) 7, none⟩,
    ⟨some 47, .load (.tmp 46) 1 false .plain, none⟩,
    ⟨some 48, .bin .lss (.tmp 47) (.const (.int .i64 1)), none⟩,
    ⟨some 49, .mov (.tmp 48), none⟩,
    ⟨some 50, .faddr (.tmp 3) 7, some (49, false)⟩,
    ⟨some 51, .load (.tmp 50) 1 false .plain, some (49, false)⟩,
    ⟨some 52, .bin .gtr (.tmp 51) (.const (.int .i64 6)), some (49, false)⟩,
    ⟨some 53, .pick (.tmp 49) (.const (.bool true)) (.tmp 52), none⟩,
    ⟨some 54, .mov (.tmp 53), none⟩,
    ⟨some 55, .faddr (.tmp 3) 0, some (54, false)⟩,
    ⟨some 56, .faddr (.tmp 55) 6, some (54, false)⟩,
    ⟨some 57, .load (.tmp 56) 1 false .plain, some (54, false)⟩,
    ⟨some 58, .bin .lss (.tmp 57) (.const (.int .i64 0)), some (54, false)⟩,
    ⟨some 59, .pick (.tmp 54) (.const (.bool true)) (.tmp 58), none⟩,
    ⟨some 60, .mov (.tmp 59), none⟩,
    ⟨some 61, .faddr (.tmp 3) 0, some (60, false)⟩,
    ⟨some 62, .faddr (.tmp 61) 6, some (60, false)⟩,
    ⟨some 63, .load (.tmp 62) 1 false .plain, some (60, false)⟩,
    ⟨some 64, .bin .gtr (.tmp 63) (.const (.int .i64 100)), some (60, false)⟩,
    ⟨some 65, .pick (.tmp 60) (.const (.bool true)) (.tmp 64), none⟩,
    ⟨some 66, .mov (.tmp 65), none⟩,
    ⟨some 67, .faddr (.tmp 3) 8, some (66, false)⟩,
    ⟨some 68, .load (.tmp 67) 1 false .plain, some (66, false)⟩,
    ⟨some 69, .faddr (.tmp 3) 0, some (66, false)⟩,
    ⟨some 70, .faddr (.tmp 69) 6, some (66, false)⟩,
    ⟨some 71, .load (.tmp 70) 1 false .plain, some (66, false)⟩,
    ⟨some 72, .bin .gtr (.tmp 68) (.tmp 71), some (66, false)⟩,
    ⟨some 73, .mov (.tmp 72), some (66, false)⟩,
    ⟨some 74, .faddr (.tmp 3) 7, some (73, true)⟩,
    ⟨some 75, .load (.tmp 74) 1 false .plain, some (73, true)⟩,
    ⟨some 76, .bin .eql (.tmp 75) (.const (.int .i64 6)), some (73, true)⟩,
    ⟨some 77, .pick (.tmp 73) (.tmp 76) (.const (.bool false)), some (66, false)⟩,
    ⟨some 78, .pick (.tmp 66) (.const (.bool true)) (.tmp 77), none⟩] [3, 6, 7, 78])
  (.cond (.tmp 78)
    (.seq (.region [
      ⟨some 2, .mov (.const (.bool true)), none⟩] [2])
    .ret)
    .skip))
  (.seq (.region [
    ⟨some 79, .load (.tmp 3) 11 true .plain, none⟩,
    ⟨none, .store (.tmp 7) (.tmp 79) 11, none⟩] [3, 6, 7])
  (.seq (.seq (.region [
    ⟨some 11, .mov (.const (.int .i64 0)), none⟩] [3, 6, 7, 11])
  (.block 0
    (.loop [3, 6, 7, 11] c167b0)))
  (.seq (.region [
    ⟨some 2, .mov (.const (.bool false)), none⟩] [2])
  .ret))))))))))⟩
/-- The functions' own table. -/
def codeOf (k : Nat) : Option CFn :=
  match k with
  | 1 => some c1
  | 2 => some c2
  | 14 => some c14
  | 15 => some c15
  | 16 => some c16
  | 87 => some c87
  | 88 => some c88
  | 89 => some c89
  | 90 => some c90
  | 91 => some c91
  | 92 => some c92
  | 93 => some c93
  | 94 => some c94
  | 95 => some c95
  | 144 => some c144
  | 160 => some c160
  | 167 => some c167
  | _ => none
def prim : Callee := fun _ _ _ => none
def P : CProg := ⟨codeOf, prim⟩
@[simp] theorem fn1 : P.fn 1 = some c1 := rfl
@[simp] theorem fn2 : P.fn 2 = some c2 := rfl
@[simp] theorem fn14 : P.fn 14 = some c14 := rfl
@[simp] theorem fn15 : P.fn 15 = some c15 := rfl
@[simp] theorem fn16 : P.fn 16 = some c16 := rfl
@[simp] theorem fn87 : P.fn 87 = some c87 := rfl
@[simp] theorem fn88 : P.fn 88 = some c88 := rfl
@[simp] theorem fn89 : P.fn 89 = some c89 := rfl
@[simp] theorem fn90 : P.fn 90 = some c90 := rfl
@[simp] theorem fn91 : P.fn 91 = some c91 := rfl
@[simp] theorem fn92 : P.fn 92 = some c92 := rfl
@[simp] theorem fn93 : P.fn 93 = some c93 := rfl
@[simp] theorem fn94 : P.fn 94 = some c94 := rfl
@[simp] theorem fn95 : P.fn 95 = some c95 := rfl
@[simp] theorem fn144 : P.fn 144 = some c144 := rfl
@[simp] theorem fn160 : P.fn 160 = some c160 := rfl
@[simp] theorem fn167 : P.fn 167 = some c167 := rfl
end Go.Proofs.Ytobpliconmgbcaa
