/- FnExactMateAlive: the plain law. -/
import Derived.Test.YtahgeececclhdaaCode
namespace Go.Proofs.Ytahgeececclhdaa
open Go
set_option linter.unusedSimpArgs false
set_option maxHeartbeats 1000000
set_option maxRecDepth 10000
attribute [local simp] CProg.call runFn runCode runIns stepIns sem guardA Opd.ev Out.val Out.opt Out.app putTo upd wsOn St.forget keepSlots startSlots startHeap AV.parts loadFrom binAV binInt endFn resVals resVal shutT shutV shut1 shutBoxes distinct outsOf lendAO AV.lendO semCall passArgs lendV lendL lend1 content openR openV open1 openL takeBack evL lay runQuiet stepQuiet AV.snaps AV.ids AV.id? AV.snaps1 shutL outOf

theorem szMateWant_law (d : Nat) (s1 : ByteArray) (n1 : Int) (s2 : ByteArray) (n2 n3 n4 n5 l : Int) :
    ∃ r, P.call (d+1) 79 [.agg [.str s1, .int .i64 n1, .str s2, .int .i64 n2, .int .i64 n3, .int .i64 n4, .int .i64 n5], .int .i64 l] [] = some (.int .i64 r, []) := by
  simp [c79]
  by_cases h1 : IntKind.i64.wrap (l - s1.size) < 0
  · simp [h1]
  · simp only [h1]
    by_cases h2 : IntKind.i64.wrap (IntKind.i64.wrap (l - ↑s1.size) - ↑s2.size) < 0
    · simp [h2]
    · simp [h2]

theorem toMateWant_law (d : Nat) (s1 : ByteArray) (n1 : Int) (s2 : ByteArray) (n2 n3 n4 n5 : Int) :
    P.call (d+1) 80 [.agg [.str s1, .int .i64 n1, .str s2, .int .i64 n2, .int .i64 n3, .int .i64 n4, .int .i64 n5]] [] = some (.agg [.str s1, .int .i64 n1, .str s2, .int .i64 n2, .int .i64 n3, .int .i64 n4, .int .i64 n5], []) := by
  simp [c80]

theorem szMateRun_law (d : Nat) (s1 : ByteArray) (n1 : Int) (s2 : ByteArray) (n2 n3 n4 n5 m1 m2 m3 m4 l : Int) :
    ∃ r, P.call (d+2) 3 [.agg [.str s1, .int .i64 n1, .str s2, .int .i64 n2, .int .i64 n3, .int .i64 n4, .int .i64 n5, .int .i64 m1, .int .i64 m2, .int .i64 m3, .int .i64 m4], .int .i64 l] [] = some (.int .i64 r, []) := by
  obtain ⟨r, hr⟩ := szMateWant_law d s1 n1 s2 n2 n3 n4 n5 l
  rw [CProg.call]
  generalize P.call (d + 1) = cl at hr
  simp [c3, hr]
  by_cases h1 : r < 0
  · simp [h1]
  · simp [h1]

theorem toMateRun_law (d : Nat) (s1 : ByteArray) (n1 : Int) (s2 : ByteArray) (n2 n3 n4 n5 m1 m2 m3 m4 : Int) :
    P.call (d+2) 0 [.agg [.str s1, .int .i64 n1, .str s2, .int .i64 n2, .int .i64 n3, .int .i64 n4, .int .i64 n5, .int .i64 m1, .int .i64 m2, .int .i64 m3, .int .i64 m4]] [] =
      some (.agg [.str s1, .int .i64 n1, .str s2, .int .i64 n2, .int .i64 n3, .int .i64 n4, .int .i64 n5, .int .i64 m1, .int .i64 m2, .int .i64 m3, .int .i64 m4], []) := by
  have hr := toMateWant_law d s1 n1 s2 n2 n3 n4 n5
  rw [CProg.call]
  generalize P.call (d + 1) = cl at hr
  simp [c0, hr]

theorem implMateAlive_law (d : Nat) (s1 : ByteArray) (n1 : Int) (s2 : ByteArray) (n2 n3 n4 n5 m1 m2 m3 m4 : Int) :
    ∃ b, P.call (d+1) 1 [.agg [.str s1, .int .i64 n1, .str s2, .int .i64 n2, .int .i64 n3, .int .i64 n4, .int .i64 n5, .int .i64 m1, .int .i64 m2, .int .i64 m3, .int .i64 m4]] [] = some (.bool b, []) ∧
      P.call (d+1) 2 [.agg [.str s1, .int .i64 n1, .str s2, .int .i64 n2, .int .i64 n3, .int .i64 n4, .int .i64 n5, .int .i64 m1, .int .i64 m2, .int .i64 m3, .int .i64 m4]] [] = some (.bool b, []) := by
  by_cases h1 : m1 = 3
  · subst h1
    exact ⟨true, by simp [c1], by simp [c2]⟩
  · by_cases h2 : m1 = 4
    · subst h2
      exact ⟨true, by simp [c1], by simp [c2]⟩
    · have e1 : (m1 == 3) = false := by simp [h1]
      have e2 : (m1 == 4) = false := by simp [h2]
      exact ⟨m1 == 6, by simp [c1, e1, e2], by simp [c2, e1, e2]⟩

theorem alive_law (d : Nat) (s1 : ByteArray) (n1 : Int) (s2 : ByteArray) (n2 n3 n4 n5 m1 m2 m3 m4 : Int) :
    P.call (d+3) 164 [.agg [.str s1, .int .i64 n1, .str s2, .int .i64 n2, .int .i64 n3, .int .i64 n4, .int .i64 n5, .int .i64 m1, .int .i64 m2, .int .i64 m3, .int .i64 m4]] [] = some (.bool true, []) := by
  obtain ⟨r, hr⟩ := szMateRun_law d s1 n1 s2 n2 n3 n4 n5 m1 m2 m3 m4 1048576
  have ht := toMateRun_law d s1 n1 s2 n2 n3 n4 n5 m1 m2 m3 m4
  obtain ⟨b, h1, h2⟩ := implMateAlive_law (d + 1) s1 n1 s2 n2 n3 n4 n5 m1 m2 m3 m4
  rw [CProg.call]
  generalize P.call (d + 2) = cl at hr ht h1 h2
  simp [c164, hr, ht, h1, h2]
  by_cases h : r < 0
  · simp [h]
  · simp [h, ht, h1, h2]
end Go.Proofs.Ytahgeececclhdaa
