/- Layer 8: a new world. -/
import Derived.Test.YtojihfiloldkgaaA8
import Derived.Test.YtojihfiloldkgaaA11
namespace Go.Proofs.Ytojihfiloldkgaa
open Go
set_option linter.unusedSimpArgs false
set_option maxRecDepth 100000

def Wld.zero : Wld := ⟨.zero, [], []⟩
def mate0 (n : T) : Mate := ⟨n, true, 0, false, 0, [], [], [], []⟩
def ascT (pre : List T) (n : T) : Bool :=
  match pre.getLast? with
  | none => true
  | some p => sLt p n
def namesGo (pre : List T) : List T → Bool
  | [] => true
  | n :: r => isName n && (ascT pre n && namesGo (pre ++ [n]) r)
def namesOk (l : List T) : Bool := decide (1 ≤ l.length) && (decide (l.length ≤ 4) && namesGo [] l)
def world0 (l : List T) : Wld := ⟨.zero, l.map mate0, []⟩
def newWorld (l : List T) : Wld := if namesOk l then world0 l else .zero

theorem mate0_valid (n : T) : mateValid (mate0 n) = isName n := by
  simp [mateValid, mateParts, mate0, inR, wantsOk, wantsGo, runsOk, runsGo, asksOk, asksGo, apartGo]
theorem ascM_map (pre : List T) (n : T) : ascM (pre.map mate0) (mate0 n) = ascT pre n := by
  unfold ascM ascT
  rw [List.getLast?_map]
  cases pre.getLast? <;> rfl
theorem matesGo_map : ∀ (r pre : List T), matesGo (pre.map mate0) (r.map mate0) = namesGo pre r
  | [], pre => rfl
  | n :: r, pre => by
    simp only [List.map_cons, matesGo, namesGo, mate0_valid, ascM_map]
    have := matesGo_map r (pre ++ [n])
    rw [List.map_append] at this
    simp only [List.map_cons, List.map_nil] at this
    rw [this]
theorem world0_ok (l : List T) : worldOk (world0 l) = namesOk l := by
  have := matesGo_map l []
  simp only [List.map_nil] at this
  simp [worldOk, world0, namesOk, landOk, Land.zero, inR, grantsGo, placesGo, this]

def zeroW : List AV := [.int .i64 0, .sl .own 5 [], .sl .own 3 [], .sl .own 9 [], .sl .own 1 []]
def rowsT (l : List T) : List (List AV) := l.map fun s => [.str s]

def head50 (l : List T) (i : Nat) (acc : List T) : St :=
  hd [(0, .sl .bor 1 (l.map fun s => [.str s])), (2, .ptr 0 0 0), (3, .ptr 1 0 0), (15, .sl .bor 1 (l.map fun s => [.str s])), (16, .int .i64 l.length), (17, .int .i64 i)]
    (.box zeroW :: .box [.int .i64 0, .sl .own 5 [], .sl .own 3 [], ownVi 2 9 (acc.map fun n => (mate0 n).c .own), .sl .own 1 []] :: ownH 9 (acc.map fun n => (mate0 n).c .own)) 0

theorem law50 (l : List T) (hl : l.length ≤ 1048576) : F 50 [.sl .bor 1 (l.map fun s => [.str s])] [] = some (.agg ((newWorld l).c .own .own), []) := by
  refine F_run fn50 rfl ?_
  unfold newWorld namesOk
  simp [c50]
  by_cases q2 : 1 ≤ l.length
  case neg =>
    have q2' : ¬ (1 ≤ (l.length : Int)) := by omega
    have q2a : (l.length : Int) < 1 := by omega
    simp [q2, q2', q2a, Wld.zero, Land.zero]
  have q2' : 1 ≤ (l.length : Int) := by omega
  have q2a : ¬ ((l.length : Int) < 1) := by omega
  simp [q2, q2', q2a]
  by_cases q3 : l.length ≤ 4
  case neg =>
    have q3' : ¬ ((l.length : Int) ≤ 4) := by omega
    have q3a : 4 < (l.length : Int) := by omega
    simp [q3, q3', q3a, Wld.zero, Land.zero]
  have q3' : (l.length : Int) ≤ 4 := by omega
  have q3a : ¬ (4 < (l.length : Int)) := by omega
  simp [q3, q3', q3a]
  refine (loop_list l (fun i (acc : List T) => head50 l i acc) (fun i acc => acc = l.take i) (fun i r acc => (.agg ((if namesGo (l.take i) r then world0 (acc ++ r) else .zero).c .own .own), [])) (fun acc Y hacc => ?_) (fun i a r acc Y ha hi hr hacc hY => ?_) [] ?_ rfl ?_).trans ?_
  · rcases acc with _ | ⟨x, acc⟩
    · simp [head50, c50b0, zeroW, namesGo, world0, Land.zero]
    · simp [head50, c50b0, zeroW, namesGo, world0, Land.zero, mate0]
  · have hw1 : IntKind.i64.wrap ((i : Int) + 1) = (i : Int) + 1 := i64w (by omega) (by omega)
    obtain ⟨_, hg⟩ := List.getElem?_eq_some_iff.1 ha
    have hs := take_snoc ha
    have hln : acc.length = i := by rw [hacc]; simp; omega
    have hb3 : (acc.length + 1) * 144 ≤ 140737488355328 := by omega
    have hb4 : acc.length + 1 ≤ 140737488355328 := by omega
    have hY' : ∀ s', s'.norm [0, 2, 3, 15, 16, 17] = head50 l (i + 1) (acc ++ [a]) → fin [CRes.cell 2 5 true] 0 (Y s') = some (.agg ((if namesGo (l.take i ++ [a]) r then world0 (acc ++ [a] ++ r) else .zero).c .own .own), []) := fun s' h => by rw [← hs]; exact hY (acc ++ [a]) s' (by rw [hacc, hs]) h
    rcases prevOr hi (by omega) with ⟨hp, hlast⟩ | ⟨j, hp, hw2, hj, hlast⟩
    · rcases acc with _ | ⟨x, acc⟩
      · simp [head50, c50b0, zeroW, namesGo, hg, hi, ascT, hp, hlast]
        cases r1 : isName a <;> simp
        · simp [Wld.zero, Land.zero]
        exact (hY' _ (by simp [head50, hw1, zeroW, mate0])).trans (by simp)
      · simp only [List.length_cons] at hln; omega
    · rcases acc with _ | ⟨x, acc⟩
      · simp only [List.length_nil] at hln; omega
      · simp at hb3 hb4
        simp [head50, c50b0, zeroW, namesGo, hg, hi, ascT, hp, hw2, hj, hlast, hb3, hb4, takeRows]
        cases r1 : isName a <;> simp
        · simp [Wld.zero, Land.zero]
        cases r2 : sLt l[j] a <;> simp
        · simp [Wld.zero, Land.zero]
        exact (hY' _ (by simp [head50, hw1, zeroW, mate0])).trans (by simp)
  · simp [head50, zeroW]
  · unfold big; omega
  · simp only [List.take_zero, List.nil_append]; rfl

def head54 (l : List T) (i : Nat) (acc : List T) : St :=
  hd [(0, .sl .bor 1 (l.map fun s => [.str s])), (2, .ptr 0 0 0), (3, .ptr 1 0 0), (4, .int .i64 i)]
    (.box zeroW :: .box [.int .i64 0, .sl .own 5 [], .sl .own 3 [], ownVi 2 9 (acc.map fun n => (mate0 n).c .own), .sl .own 1 []] :: ownH 9 (acc.map fun n => (mate0 n).c .own)) 0

theorem mate0_small (n : T) : (mate0 n).small := ⟨by simp [mate0], by simp [mate0], by simp [mate0], by simp [mate0]⟩
theorem world0_small {l : List T} (hl : l.length ≤ 1048576) : (world0 l).small := by
  refine ⟨⟨by simp [world0, Land.zero], by simp [world0, Land.zero], by simp [world0, Land.zero]⟩, by simpa [world0] using hl, fun m hm => ?_, by simp [world0]⟩
  obtain ⟨n, _, rfl⟩ := List.mem_map.1 hm
  exact mate0_small n

theorem law54 (l : List T) (hl : l.length ≤ 1048576) : F 54 [.sl .bor 1 (l.map fun s => [.str s])] [] = some (.agg ((newWorld l).c .own .own), []) := by
  refine F_run fn54 rfl ?_
  have w1 := law58 (world0 l) .own (world0_small hl)
  rw [world0_ok] at w1
  have hcm : (Mate.c .own ∘ mate0) = fun n => [.str n, .bool true, .int .i64 0, .bool false, .int .i64 0, .sl .own 7 [], .sl .own 11 [], .sl .own 4 [], .sl .own 4 []] := rfl
  unfold newWorld
  simp [world0, Land.zero, hcm] at w1
  simp [c54]
  refine (loop_list l (fun i (acc : List T) => head54 l i acc) (fun i acc => acc = l.take i) (fun i r acc => (.agg ((if namesOk l then world0 l else .zero).c .own .own), [])) (fun acc Y hacc => ?_) (fun i a r acc Y ha hi hr hacc hY => ?_) [] ?_ rfl ?_).trans ?_
  · rw [List.take_length] at hacc
    subst hacc
    cases hok : namesOk acc
    · rw [hok] at w1
      rcases acc with _ | ⟨x, acc⟩
      · simp [mate0, hcm] at w1
        simp [head54, c54b0, zeroW, w1, Wld.zero, Land.zero]
      · simp [mate0, hcm] at w1
        simp [head54, c54b0, zeroW, w1, mate0, Wld.zero, Land.zero]
    · rw [hok] at w1
      rcases acc with _ | ⟨x, acc⟩
      · simp [namesOk] at hok
      · simp [mate0, hcm] at w1
        simp [head54, c54b0, zeroW, w1, mate0, world0, Land.zero]
  · have hw1 : IntKind.i64.wrap ((i : Int) + 1) = (i : Int) + 1 := i64w (by omega) (by omega)
    obtain ⟨_, hg⟩ := List.getElem?_eq_some_iff.1 ha
    have hs := take_snoc ha
    have hln : acc.length = i := by rw [hacc]; simp; omega
    have hb3 : (acc.length + 1) * 144 ≤ 140737488355328 := by omega
    have hb4 : acc.length + 1 ≤ 140737488355328 := by omega
    have hY' := fun s' h => hY (acc ++ [a]) s' (by rw [hacc, hs]) h
    rcases acc with _ | ⟨x, acc⟩
    · simp [head54, c54b0, zeroW, hg, hi]
      exact (hY' _ (by simp [head54, hw1, zeroW, mate0])).trans (by simp)
    · simp at hb3 hb4
      simp [head54, c54b0, zeroW, hg, hi, takeRows, hb3, hb4]
      exact (hY' _ (by simp [head54, hw1, zeroW, mate0])).trans (by simp)
  · simp [head54, zeroW]
  · unfold big; omega
  · simp
end Go.Proofs.Ytojihfiloldkgaa
