/- The laws' own helpers, on parcels. -/
import Derived.Test.YtgeingajanamnaaE7
namespace Go.Proofs.Ytgeingajanamnaa
open Go
set_option linter.unusedSimpArgs false
set_option maxRecDepth 100000

structure Parcel.small (p : Parcel) : Prop where
  wants : p.wants.length ≤ 1048576

theorem law60 (p : Parcel) (hp : p.small) : F 60 [.agg (p.c .bor)] [] = some (.agg (p.c .own), []) := by
  refine F_run fn60 rfl ?_
  simp [c60, law4 p.wants hp.wants]

theorem law63 (p : Parcel) (hp : p.small) : F 63 [.agg (p.c .bor), .agg (p.c .bor)] [] = some (.bool true, []) := by
  refine F_run fn63 rfl ?_
  have := hp.wants
  simp [c63, law5 p.wants (by unfold big; omega)]

theorem law65 (p : Parcel) (l : Int) (hw : p.wf) (h0 : 0 ≤ l) (hx : l ≤ 1048576) : ∃ r, F 65 [.agg (p.c .bor), .int .i64 l] [] = some (.int .i64 r, []) ∧ (r < 0 ∨ (0 ≤ r ∧ r ≤ l ∧ p.small)) := by
  have hL : maxLen = 9223372036854775807 := rfl
  by_cases k1 : IntKind.i64.wrap (l - p.berth.size) < 0
  · refine ⟨-1, F_run fn65 rfl ?_, .inl (by omega)⟩
    simp [c65, k1]
  have e1 := off_le h0 hw.berth (by rw [off_pos k1]; omega) hx
  rw [off_pos k1] at e1
  generalize hl1 : IntKind.i64.wrap (l - p.berth.size) = l1 at k1 e1
  have w1 := law8 p.wants l1 (by have := hw.wants.len; omega) (by omega) (by omega)
  rcases Int.lt_or_le (szWants p.wants l1) 0 with k2 | k2
  · refine ⟨-1, F_run fn65 rfl ?_, .inl (by omega)⟩
    simp [c65, hl1, k1, w1, k2]
  have e2 := szWants_le hw.wants (by omega) (by omega) k2
  have k2' : ¬ (szWants p.wants l1 < 0) := by omega
  by_cases k3 : IntKind.i64.wrap (szWants p.wants l1 - p.hold.size) < 0
  · refine ⟨-1, F_run fn65 rfl ?_, .inl (by omega)⟩
    simp [c65, hl1, k1, w1, k2', k3]
  have e3 := off_le k2 hw.hold (by rw [off_pos k3]; omega) (by omega)
  rw [off_pos k3] at e3
  generalize hl3 : IntKind.i64.wrap (szWants p.wants l1 - p.hold.size) = l3 at k3 e3
  by_cases k4 : IntKind.i64.wrap (l3 - p.copy.size) < 0
  · refine ⟨-1, F_run fn65 rfl ?_, .inl (by omega)⟩
    simp [c65, hl1, k1, w1, k2', hl3, k3, k4]
  have e4 := off_le (l := l3) (by omega) hw.copy (by rw [off_pos k4]; omega) (by omega)
  rw [off_pos k4] at e4
  refine ⟨IntKind.i64.wrap (l3 - p.copy.size), F_run fn65 rfl ?_, .inr ⟨by omega, by omega, ⟨e2.2⟩⟩⟩
  simp [c65, hl1, k1, w1, k2', hl3, k3, k4]

theorem law62 (p : Parcel) (k : Int) (hp : p.small) (h0 : 0 ≤ k) (hk : k ≤ 10000000000) : F 62 [.agg [.int .i64 p.kind, .str p.berth, .int .i64 p.seen, .ref 0, .str p.hold, .str p.copy, .int .i64 p.at_], .int .i64 k] [.arr 7 (p.wants.map Want.c)] = some (.int .i64 (k + 7 * p.wants.length), [some (.arr 7 ((marksWant p.wants.length k).map Want.c))]) := by
  refine F_run fn62 rfl ?_
  have w1 := law71 p.wants k h0 hp.wants (by omega)
  simp [c62, w1]
end Go.Proofs.Ytgeingajanamnaa
