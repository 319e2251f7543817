/- Layer 6: the book's copy and its tick. -/
import Derived.Test.YtojihfiloldkgaaA6
import Derived.Test.YtojihfiloldkgaaA5
import Derived.Test.YtojihfiloldkgaaE10
namespace Go.Proofs.Ytojihfiloldkgaa
open Go
set_option linter.unusedSimpArgs false
set_option maxRecDepth 100000

def Land.zero : Land := ⟨0, [], []⟩
def zeroL : List AV := [.int .i64 0, .sl .own 5 [], .sl .own 3 []]

def head122 (l : Land) (m : Md) (i : Nat) (acc : List Place) : St :=
  hd [(1, .ptr 0 0 0), (2, .ptr 1 0 0), (3, ownVi 2 3 (acc.map (Place.c .own))), (11, .sl .bor 3 (l.places.map (Place.c m))), (12, .int .i64 l.places.length), (13, .int .i64 i)]
    (.box [.int .i64 l.time, .ref (if acc = [] then 2 else 3), .sl .bor 3 (l.places.map (Place.c m))] :: .box zeroL :: (ownH 3 (acc.map (Place.c .own)) ++ [.arr 5 (l.grants.map Grant.c)])) 0

def head121 (l : Land) (m : Md) (i : Nat) (acc : List Place) : St :=
  hd [(1, .ptr 0 0 0), (2, .ptr 1 0 0), (3, .ptr 2 0 0), (4, .int .i64 i)]
    (.box (l.c .bor m) :: .box zeroL :: .box [.int .i64 l.time, .ref 3, ownVi 4 3 (acc.map (Place.c .own))] :: .arr 5 (l.grants.map Grant.c) :: ownH 3 (acc.map (Place.c .own))) 0

def told (p : Place) : Parcel := ⟨1, p.berth, p.seen, p.wants, ⟨#[]⟩, ⟨#[]⟩, 0⟩
def landTick (l : Land) : Land × List Parcel :=
  if landOk l then (if l.time = 2000000 then (l, []) else ({ l with time := l.time + 2 }, l.places.map told)) else (.zero, [])

theorem landOk_time {l : Land} (h : landOk l = true) : 0 ≤ l.time ∧ l.time ≤ 2000000 := by
  unfold landOk at h
  simp only [Bool.and_eq_true] at h
  have := h.1
  simpa [inR] using this

def n41 (acc : List Parcel) : Nat := if acc = [] then 2 else 3
def head41 (l : Land) (i : Nat) (acc : List Parcel) : St :=
  hd [(1, .ptr 0 0 0), (2, .ptr 1 0 0), (4, ownVi 2 7 (acc.map (Parcel.c .own))), (22, .ref (n41 acc)), (23, .int .i64 l.places.length), (24, .int .i64 i)]
    (.box [.int .i64 (l.time + 2), .ref (n41 acc + 1), .ref (n41 acc)] :: .box zeroL :: (ownH 7 (acc.map (Parcel.c .own)) ++ [.arr 3 (l.places.map (Place.c .own)), .arr 5 (l.grants.map Grant.c)])) 0

def head44 (l : Land) (i : Nat) (acc : List Parcel) : St :=
  hd [(2, .ptr 0 0 0), (4, .ref 1), (5, .ptr 2 0 0), (6, .int .i64 i)]
    [.box zeroL, .arr 7 (acc.map (Parcel.c .own)), .box [.int .i64 (l.time + 2), .ref 3, .ref 4], .arr 5 (l.grants.map Grant.c), .arr 3 (l.places.map (Place.c .own))] 0

end Go.Proofs.Ytojihfiloldkgaa
