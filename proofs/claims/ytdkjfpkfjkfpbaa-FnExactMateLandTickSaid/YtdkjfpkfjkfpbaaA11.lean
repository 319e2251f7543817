/- Layer 6: the book's copy and its tick. -/
import Derived.Test.YtdkjfpkfjkfpbaaA6
import Derived.Test.YtdkjfpkfjkfpbaaA5
import Derived.Test.YtdkjfpkfjkfpbaaE10
namespace Go.Proofs.Ytdkjfpkfjkfpbaa
open Go
set_option linter.unusedSimpArgs false
set_option maxRecDepth 100000

def Land.zero : Land := ⟨0, [], []⟩
def zeroL : List AV := [.int .i64 0, .sl .own 5 [], .sl .own 3 []]

def head122 (l : Land) (m : Md) (i : Nat) (acc : List Place) : St :=
  hd [(1, .ptr 0 0 0), (2, .ptr 1 0 0), (3, ownVi 2 3 (acc.map (Place.c .own))), (11, .sl .bor 3 (l.places.map (Place.c m))), (12, .int .i64 l.places.length), (13, .int .i64 i)]
    (.box [.int .i64 l.time, .ref (if acc = [] then 2 else 3), .sl .bor 3 (l.places.map (Place.c m))] :: .box zeroL :: (ownH 3 (acc.map (Place.c .own)) ++ [.arr 5 (l.grants.map Grant.c)])) 0

theorem law122 (l : Land) (m : Md) (hl : l.small) : F 122 [.agg (l.c .bor m)] [] = some (.agg (l.c .own .own), []) := by
  refine F_run fn122 rfl ?_
  obtain ⟨h1, h2, h3⟩ := hl
  have e1 : l.grants.length * 64 ≤ 140737488355328 := by omega
  have f1 : l.grants.length ≤ 140737488355328 := by omega
  simp [c122, takeRows, e1, f1]
  refine (loop_list l.places (fun i (acc : List Place) => head122 l m i acc) (fun i acc => acc.length = i) (fun _ r acc => (.agg (({ l with places := acc ++ r } : Land).c .own .own), [])) (fun acc Y hacc => ?_) (fun i a r acc Y ha hi hr hacc hY => ?_) [] ?_ rfl ?_).trans ?_
  · rcases acc with _ | ⟨x, acc⟩
    · simp [head122, c122b0, zeroL]
    · simp [head122, c122b0, zeroL]
  · have hw : IntKind.i64.wrap ((i : Int) + 1) = (i : Int) + 1 := i64w (by omega) (by omega)
    obtain ⟨_, hg⟩ := List.getElem?_eq_some_iff.1 ha
    have hs := (h3 a (List.mem_of_getElem? ha)).wants
    have e2 : a.wants.length * 72 ≤ 140737488355328 := by omega
    have f2 : a.wants.length ≤ 140737488355328 := by omega
    have hb3 : (acc.length + 1) * 48 ≤ 140737488355328 := by omega
    have hb4 : acc.length + 1 ≤ 140737488355328 := by omega
    have hY' := fun s' h => hY (acc ++ [a]) s' (by simp [hacc]) h
    rcases acc with _ | ⟨x, acc⟩
    · simp [head122, c122b0, zeroL, hi, hg, takeRows, e2, f2]
      exact (hY' _ (by simp [head122, hw, zeroL])).trans (by simp)
    · simp at hb3 hb4
      simp [head122, c122b0, zeroL, hi, hg, takeRows, e2, f2, hb3, hb4]
      exact (hY' _ (by simp [head122, hw, zeroL])).trans (by simp)
  · simp [head122, zeroL]
  · unfold big; omega
  · simp

def head121 (l : Land) (m : Md) (i : Nat) (acc : List Place) : St :=
  hd [(1, .ptr 0 0 0), (2, .ptr 1 0 0), (3, .ptr 2 0 0), (4, .int .i64 i)]
    (.box (l.c .bor m) :: .box zeroL :: .box [.int .i64 l.time, .ref 3, ownVi 4 3 (acc.map (Place.c .own))] :: .arr 5 (l.grants.map Grant.c) :: ownH 3 (acc.map (Place.c .own))) 0

theorem law121 (l : Land) (m : Md) (hl : l.small) : F 121 [.agg (l.c .bor m)] [] = some (.agg (l.c .own .own), []) := by
  refine F_run fn121 rfl ?_
  obtain ⟨h1, h2, h3⟩ := hl
  have e1 : l.grants.length * 64 ≤ 140737488355328 := by omega
  have f1 : l.grants.length ≤ 140737488355328 := by omega
  simp [c121, takeRows, e1, f1]
  refine (loop_list l.places (fun i (acc : List Place) => head121 l m i acc) (fun i acc => acc.length = i) (fun _ r acc => (.agg (({ l with places := acc ++ r } : Land).c .own .own), [])) (fun acc Y hacc => ?_) (fun i a r acc Y ha hi hr hacc hY => ?_) [] ?_ rfl ?_).trans ?_
  · rcases acc with _ | ⟨x, acc⟩
    · simp [head121, c121b0, zeroL]
    · simp [head121, c121b0, zeroL]
  · have hw : IntKind.i64.wrap ((i : Int) + 1) = (i : Int) + 1 := i64w (by omega) (by omega)
    obtain ⟨_, hg⟩ := List.getElem?_eq_some_iff.1 ha
    have hs := (h3 a (List.mem_of_getElem? ha)).wants
    have e2 : a.wants.length * 72 ≤ 140737488355328 := by omega
    have f2 : a.wants.length ≤ 140737488355328 := by omega
    have hb3 : (acc.length + 1) * 48 ≤ 140737488355328 := by omega
    have hb4 : acc.length + 1 ≤ 140737488355328 := by omega
    have hY' := fun s' h => hY (acc ++ [a]) s' (by simp [hacc]) h
    rcases acc with _ | ⟨x, acc⟩
    · simp [head121, c121b0, zeroL, hi, hg, takeRows, e2, f2]
      exact (hY' _ (by simp [head121, hw, zeroL])).trans (by simp)
    · simp at hb3 hb4
      simp [head121, c121b0, zeroL, hi, hg, takeRows, e2, f2, hb3, hb4]
      exact (hY' _ (by simp [head121, hw, zeroL])).trans (by simp)
  · simp [head121, zeroL]
  · unfold big; omega
  · simp

def told (p : Place) : Parcel := ⟨1, p.berth, p.seen, p.wants, ⟨#[]⟩, ⟨#[]⟩, 0⟩
def landTick (l : Land) : Land × List Parcel :=
  if landOk l then (if l.time = 2000000 then (l, []) else ({ l with time := l.time + 2 }, l.places.map told)) else (.zero, [])

theorem landOk_time {l : Land} (h : landOk l = true) : 0 ≤ l.time ∧ l.time ≤ 2000000 := by
  unfold landOk at h
  simp only [Bool.and_eq_true] at h
  have := h.1
  simpa [inR] using this

def n41 (acc : List Parcel) : Nat := if acc = [] then 2 else 3
def head41 (l : Land) (i : Nat) (acc : List Parcel) : St :=
  hd [(1, .ptr 0 0 0), (2, .ptr 1 0 0), (4, ownVi 2 7 (acc.map (Parcel.c .own))), (22, .ref (n41 acc)), (23, .int .i64 l.places.length), (24, .int .i64 i)]
    (.box [.int .i64 (l.time + 2), .ref (n41 acc + 1), .ref (n41 acc)] :: .box zeroL :: (ownH 7 (acc.map (Parcel.c .own)) ++ [.arr 3 (l.places.map (Place.c .own)), .arr 5 (l.grants.map Grant.c)])) 0

theorem law41 (l : Land) (m : Md) (hl : l.small) : F 41 [.agg (l.c .bor m)] [] = some (.tup [.agg ((landTick l).1.c .own .own), .sl .own 7 ((landTick l).2.map (Parcel.c .own))], []) := by
  refine F_run fn41 rfl ?_
  have w1 := law23 l m hl
  have w2 := law122 l m hl
  simp only [Land.c] at w1 w2
  obtain ⟨h1, h2, h3⟩ := hl
  unfold landTick
  simp [c41, w1]
  cases hv : landOk l <;> simp
  · simp [Land.zero]
  have ht := landOk_time hv
  simp [w2]
  by_cases hx : l.time = 2000000
  · simp [hx]
  have hw2 : IntKind.i64.wrap (l.time + 2) = l.time + 2 := i64w (by omega) (by omega)
  simp [hx, hw2]
  refine (loop_list l.places (fun i (acc : List Parcel) => head41 l i acc) (fun i acc => acc.length = i) (fun _ r acc => (.tup [.agg (({ l with time := l.time + 2 } : Land).c .own .own), .sl .own 7 ((acc ++ r.map told).map (Parcel.c .own))], [])) (fun acc Y hacc => ?_) (fun i a r acc Y ha hi hr hacc hY => ?_) [] ?_ rfl ?_).trans ?_
  · rcases acc with _ | ⟨x, acc⟩
    · simp [head41, c41b0, zeroL, n41]
    · simp [head41, c41b0, zeroL, n41]
  · have hw : IntKind.i64.wrap ((i : Int) + 1) = (i : Int) + 1 := i64w (by omega) (by omega)
    obtain ⟨_, hg⟩ := List.getElem?_eq_some_iff.1 ha
    have hs := (h3 a (List.mem_of_getElem? ha)).wants
    have e2 : a.wants.length * 72 ≤ 140737488355328 := by omega
    have f2 : a.wants.length ≤ 140737488355328 := by omega
    have hb3 : (acc.length + 1) * 96 ≤ 140737488355328 := by omega
    have hb4 : acc.length + 1 ≤ 140737488355328 := by omega
    have hY' := fun s' h => hY (acc ++ [told a]) s' (by simp [hacc]) h
    rcases acc with _ | ⟨x, acc⟩
    · simp [head41, c41b0, zeroL, n41, hi, hg, takeRows, e2, f2]
      exact (hY' _ (by simp [head41, hw, zeroL, n41, told])).trans (by simp)
    · simp at hb3 hb4
      simp [head41, c41b0, zeroL, n41, hi, hg, takeRows, e2, f2, hb3, hb4]
      exact (hY' _ (by simp [head41, hw, zeroL, n41, told])).trans (by simp)
  · simp [head41, zeroL, n41]
  · unfold big; omega
  · simp

def head44 (l : Land) (i : Nat) (acc : List Parcel) : St :=
  hd [(2, .ptr 0 0 0), (4, .ref 1), (5, .ptr 2 0 0), (6, .int .i64 i)]
    [.box zeroL, .arr 7 (acc.map (Parcel.c .own)), .box [.int .i64 (l.time + 2), .ref 3, .ref 4], .arr 5 (l.grants.map Grant.c), .arr 3 (l.places.map (Place.c .own))] 0

theorem law44 (l : Land) (m : Md) (hl : l.small) : F 44 [.agg (l.c .bor m)] [] = some (.tup [.agg ((landTick l).1.c .own .own), .sl .own 7 ((landTick l).2.map (Parcel.c .own))], []) := by
  refine F_run fn44 rfl ?_
  have w1 := law24 l m hl
  have w2 := law121 l m hl
  simp only [Land.c] at w1 w2
  obtain ⟨h1, h2, h3⟩ := hl
  unfold landTick
  simp [c44, w1]
  cases hv : landOk l <;> simp
  · simp [Land.zero]
  have ht := landOk_time hv
  simp [w2]
  by_cases hx : l.time = 2000000
  · simp [hx]
  have hx2 : ¬ (2000000 ≤ l.time) := by omega
  have hw2 : IntKind.i64.wrap (l.time + 2) = l.time + 2 := i64w (by omega) (by omega)
  simp [hx, hx2, hw2]
  refine (loop_list l.places (fun i (acc : List Parcel) => head44 l i acc) (fun i acc => acc.length = i) (fun _ r acc => (.tup [.agg (({ l with time := l.time + 2 } : Land).c .own .own), .sl .own 7 ((acc ++ r.map told).map (Parcel.c .own))], [])) (fun acc Y hacc => ?_) (fun i a r acc Y ha hi hr hacc hY => ?_) [] ?_ rfl ?_).trans ?_
  · simp [head44, c44b0, zeroL]
  · have hw : IntKind.i64.wrap ((i : Int) + 1) = (i : Int) + 1 := i64w (by omega) (by omega)
    obtain ⟨_, hg⟩ := List.getElem?_eq_some_iff.1 ha
    have hs := (h3 a (List.mem_of_getElem? ha)).wants
    have e2 : a.wants.length * 72 ≤ 140737488355328 := by omega
    have f2 : a.wants.length ≤ 140737488355328 := by omega
    have hb3 : (acc.length + 1) * 96 ≤ 140737488355328 := by omega
    have hb4 : acc.length + 1 ≤ 140737488355328 := by omega
    have hY' := fun s' h => hY (acc ++ [told a]) s' (by simp [hacc]) h
    simp [head44, c44b0, zeroL, hi, hg, takeRows, e2, f2, hb3, hb4]
    exact (hY' _ (by simp [head44, hw, zeroL, told])).trans (by simp)
  · simp [head44, zeroL]
  · unfold big; omega
  · simp
end Go.Proofs.Ytdkjfpkfjkfpbaa
