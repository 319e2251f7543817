/- Layer 1: names, holds and wants: what the program's and the reference's checks compute. -/
import Derived.Test.YtfebkfeobdffjaaTy
namespace Go.Proofs.Ytfebkfeobdffjaa
open Go
set_option linter.unusedSimpArgs false
set_option maxRecDepth 100000

def inR (n lo hi : Int) : Bool := decide (lo ≤ n) && decide (n ≤ hi)

@[simp] theorem law85 (n lo hi : Int) : F 85 [.int .i64 n, .int .i64 lo, .int .i64 hi] [] = some (.bool (inR n lo hi), []) := by
  refine F_run fn85 rfl ?_
  simp [c85, inR]
  by_cases h : lo ≤ n <;> simp [h]

@[simp] theorem law102 (n lo hi : Int) : F 102 [.int .i64 n, .int .i64 lo, .int .i64 hi] [] = some (.bool (inR n lo hi), []) := by
  refine F_run fn102 rfl ?_
  simp [c102, inR]
  by_cases h : lo ≤ n <;> simp [h]

def nameByte (b : UInt8) : Bool := decide (33 ≤ (b.toNat : Int)) && decide ((b.toNat : Int) ≤ 126)
def isName (s : ByteArray) : Bool := decide (1 ≤ s.size) && decide (s.size ≤ 20) && s.data.toList.all nameByte

theorem size_toList (s : ByteArray) : s.data.toList.length = s.size := rfl

def head105 (s : ByteArray) (i : Nat) : St := hd [(0, .str s), (13, .int .i64 s.size), (14, .int .i64 i)] [] 0

@[simp] theorem law105 (s : ByteArray) : F 105 [.str s] [] = some (.bool (isName s), []) := by
  refine F_run fn105 rfl ?_
  simp [c105, isName]
  by_cases h1 : 1 ≤ s.size
  · by_cases h2 : s.size ≤ 20
    · have h3 : ¬ (20 < (s.size : Int)) := by omega
      have h4 : 1 ≤ (s.size : Int) := by omega
      simp [h1, h2, h3, h4]
      refine (loop_list s.data.toList (fun i (_ : Unit) => head105 s i) (fun _ _ => True) (fun _ r _ => (.bool (r.all nameByte), [])) (fun acc Y _ => ?_) (fun i a r acc Y ha hi hr _ hY => ?_) () ?_ trivial ?_).trans ?_
      · rw [size_toList]
        simp [head105, c105b0]
      · rw [size_toList] at hi
        have hw : IntKind.i64.wrap ((i : Int) + 1) = (i : Int) + 1 := i64w (by omega) (by omega)
        have ha' : s.data[i]? = some a := by simpa using ha
        obtain ⟨_, ha⟩ := Array.getElem?_eq_some_iff.1 ha'
        simp [head105, c105b0, ha, hi, nameByte]
        by_cases q1 : 33 ≤ (a.toNat : Int)
        · by_cases q2 : (a.toNat : Int) ≤ 126
          · have q3 : ¬ ((a.toNat : Int) < 33) := by omega
            have q4 : ¬ (126 < (a.toNat : Int)) := by omega
            simp [q1, q2, q3, q4]
            rw [hY () _ trivial]
            simp [head105, hw]
          · have q3 : ¬ ((a.toNat : Int) < 33) := by omega
            have q4 : 126 < (a.toNat : Int) := by omega
            simp [q1, q2, q3, q4]
        · have q3 : (a.toNat : Int) < 33 := by omega
          simp [q1, q3]
      · simp [head105]
      · rw [size_toList]; unfold big; omega
      · simp
    · have h3 : 20 < (s.size : Int) := by omega
      have h4 : 1 ≤ (s.size : Int) := by omega
      simp [h1, h2, h3, h4]
  · have h4 : ¬ (1 ≤ (s.size : Int)) := by omega
    simp [h1, h4]

def head101 (s : ByteArray) (i : Nat) : St := hd [(0, .str s), (3, .int .i64 i)] [] 0

@[simp] theorem law101 (s : ByteArray) : F 101 [.str s] [] = some (.bool (isName s), []) := by
  refine F_run fn101 rfl ?_
  simp [c101, isName, inR]
  by_cases h1 : 1 ≤ s.size
  · by_cases h2 : s.size ≤ 20
    · have h3 : ¬ (20 < (s.size : Int)) := by omega
      have h4 : ¬ ((s.size : Int) < 1) := by omega
      simp [h1, h2, h3, h4]
      refine (loop_list s.data.toList (fun i (_ : Unit) => head101 s i) (fun _ _ => True) (fun _ r _ => (.bool (r.all nameByte), [])) (fun acc Y _ => ?_) (fun i a r acc Y ha hi hr _ hY => ?_) () ?_ trivial ?_).trans ?_
      · rw [size_toList]
        simp [head101, c101b0]
      · rw [size_toList] at hi
        have hw : IntKind.i64.wrap ((i : Int) + 1) = (i : Int) + 1 := i64w (by omega) (by omega)
        have ha' : s.data[i]? = some a := by simpa using ha
        obtain ⟨_, ha⟩ := Array.getElem?_eq_some_iff.1 ha'
        simp [head101, c101b0, ha, hi, nameByte]
        by_cases q1 : 33 ≤ (a.toNat : Int)
        · by_cases q2 : (a.toNat : Int) ≤ 126
          · have q3 : ¬ ((a.toNat : Int) < 33) := by omega
            have q4 : ¬ (126 < (a.toNat : Int)) := by omega
            simp [q1, q2, q3, q4]
            rw [hY () _ trivial]
            simp [head101, hw]
          · have q3 : ¬ ((a.toNat : Int) < 33) := by omega
            have q4 : 126 < (a.toNat : Int) := by omega
            simp [q1, q2, q3, q4]
        · have q3 : (a.toNat : Int) < 33 := by omega
          simp [q1, q3]
      · simp [head101]
      · rw [size_toList]; unfold big; omega
      · simp
    · have h3 : 20 < (s.size : Int) := by omega
      simp [h1, h2, h3]
  · have h4 : (s.size : Int) < 1 := by omega
    simp [h1, h4]

def isHold (s : ByteArray) : Bool := isName s && !(sEq s ⟨#[42]⟩)

@[simp] theorem law106 (s : ByteArray) : F 106 [.str s] [] = some (.bool (isHold s), []) := by
  refine F_run fn106 rfl ?_
  simp [c106, isHold]
  cases isName s <;> simp

@[simp] theorem law100 (s : ByteArray) : F 100 [.str s] [] = some (.bool (isHold s), []) := by
  refine F_run fn100 rfl ?_
  simp [c100, isHold]
  cases isName s <;> simp

def wantOk (w : Want) : Bool := isName w.copy && inR w.version 1 1000000 && (sEq w.hold ⟨#[]⟩ || isHold w.hold) && inR w.pull 0 100 && inR w.start 0 100 && inR w.dies 0 100 && inR w.grace 0 100

@[simp] theorem law82 (s : T) (n : Int) (h : T) (n1 n2 n3 n4 : Int) : F 82 [.agg [.str s, .int .i64 n, .str h, .int .i64 n1, .int .i64 n2, .int .i64 n3, .int .i64 n4]] [] = some (.bool (wantOk ⟨s, n, h, n1, n2, n3, n4⟩), []) := by
  refine F_run fn82 rfl ?_
  simp [c82, wantOk]
  repeat' split
  all_goals simp_all

@[simp] theorem law81 (s : T) (n : Int) (h : T) (n1 n2 n3 n4 : Int) : F 81 [.agg [.str s, .int .i64 n, .str h, .int .i64 n1, .int .i64 n2, .int .i64 n3, .int .i64 n4]] [] = some (.bool (wantOk ⟨s, n, h, n1, n2, n3, n4⟩), []) := by
  refine F_run fn81 rfl ?_
  simp [c81, wantOk]
  repeat' split
  all_goals simp_all

/-! ### Wants -/
def ascW (pre : List Want) (w : Want) : Bool :=
  match pre.getLast? with
  | none => true
  | some p => sLt p.copy w.copy
def heldB (pre : List Want) (k : T) : Bool := pre.any fun p => sEq p.hold k
def freshW (pre : List Want) (w : Want) : Bool := sEq w.hold ⟨#[]⟩ || !heldB pre w.hold
def wantsGo (pre : List Want) : List Want → Bool
  | [] => true
  | w :: r => wantOk w && (ascW pre w && (freshW pre w && wantsGo (pre ++ [w]) r))
def wantsOk (ws : List Want) : Bool := decide (ws.length ≤ 10) && wantsGo [] ws

/-- The holds of the wants before. -/
def heldMap (pre : List Want) : List (ByteArray × AV) := pre.foldl (fun m w => mapPut w.hold (.bool true) m) []

theorem mapGet_put (k j : ByteArray) (v : AV) : ∀ m : List (ByteArray × AV), mapGet k (mapPut j v m) = if sEq k j then some v else mapGet k m
  | [] => by simp [mapPut, mapGet]
  | (a, b) :: r => by
    by_cases h : sEq j a = true
    · rw [mapPut, if_pos h, mapGet, mapGet, (sEq_iff j a).1 h]
      by_cases h2 : sEq k a = true <;> simp [h2]
    · rw [mapPut, if_neg h, mapGet, mapGet, mapGet_put k j v r]
      by_cases h2 : sEq k a = true
      · have : sEq k j = false := by
          rw [(sEq_iff k a).1 h2, sEq_comm]; simpa using h
        simp [h2, this]
      · simp [h2]

@[simp] theorem heldMap_get (pre : List Want) (k : ByteArray) : (mapGet k (heldMap pre)).getD (.bool false) = .bool (heldB pre k) := by
  have h : ∀ (l : List Want) (m : List (ByteArray × AV)) (b : Bool), (mapGet k m).getD (.bool false) = .bool b → (mapGet k (l.foldl (fun m w => mapPut w.hold (.bool true) m) m)).getD (.bool false) = .bool (b || l.any fun p => sEq p.hold k) := by
    intro l
    induction l with
    | nil => intro m b h; simpa using h
    | cons w l ih =>
      intro m b h
      rw [List.foldl_cons, ih _ (b || sEq w.hold k)]
      · simp [Bool.or_assoc]
      · rw [mapGet_put, sEq_comm w.hold k]
        by_cases h2 : sEq k w.hold = true
        · simp [h2]
        · simp [h2, h]
  have := h pre [] false rfl
  rw [Bool.false_or] at this
  exact this

@[simp] theorem heldB_nil (k : T) : heldB [] k = false := rfl
theorem heldB_snoc (pre : List Want) (w : Want) (k : T) : heldB (pre ++ [w]) k = (heldB pre k || sEq w.hold k) := by simp [heldB]
theorem heldMap_snoc (pre : List Want) (w : Want) : heldMap (pre ++ [w]) = mapPut w.hold (.bool true) (heldMap pre) := by simp [heldMap]

def head6 (m : Md) (ws : List Want) (i : Nat) : St := hd [(0, .sl m 7 (ws.map Want.c)), (3, .mapr 0), (7, .sl m 7 (ws.map Want.c)), (8, .int .i64 ws.length), (9, .int .i64 i)] [.map false (heldMap (ws.take i))] 0

theorem take_snoc {α : Type} {xs : List α} {j : Nat} {a : α} (h : xs[j]? = some a) : xs.take (j + 1) = xs.take j ++ [a] := by
  rw [List.take_add_one, h]; rfl

/-- The place before. -/
theorem prev {α : Type} {xs : List α} {i : Nat} (hi : i < xs.length) (hm : xs.length ≤ 9223372036854775807) (hp : i ≠ 0) : ∃ j : Nat, 0 < i ∧ IntKind.i64.wrap ((i : Int) - 1) = (j : Int) ∧ ∃ h : j < xs.length, (xs.take i).getLast? = some (xs[j]'h) := by
  obtain ⟨j, rfl⟩ : ∃ j, i = j + 1 := ⟨i - 1, by omega⟩
  refine ⟨j, by omega, ?_, by omega, ?_⟩
  · rw [i64w] <;> omega
  · rw [take_snoc (List.getElem?_eq_getElem (show j < xs.length by omega)), List.getLast?_concat]

theorem law6 (ws : List Want) (hl : ws.length < big) : F 6 [.sl .bor 7 (ws.map Want.c)] [] = some (.bool (wantsOk ws), []) := by
  refine F_run fn6 rfl ?_
  have hm : ws.length ≤ 9223372036854775807 := by unfold big at hl; omega
  simp [c6]
  refine (loop_list ws (fun i (_ : Unit) => head6 .bor ws i) (fun _ _ => True) (fun i r _ => (.bool (decide (ws.length ≤ 10) && wantsGo (ws.take i) r), [])) (fun acc Y _ => ?_) (fun i a r acc Y ha hi hr _ hY => ?_) () ?_ trivial ?_).trans ?_
  · simp [head6, c6b0, wantsGo]
    omega
  · have hw : IntKind.i64.wrap ((i : Int) + 1) = (i : Int) + 1 := i64w (by omega) (by omega)
    obtain ⟨_, hg⟩ := List.getElem?_eq_some_iff.1 ha
    have hs := take_snoc ha
    have hY' : ∀ s', s'.norm [0, 3, 7, 8, 9] = head6 .bor ws (i + 1) → fin [CRes.tmp 2] 0 (Y s') = some (.bool (decide (ws.length ≤ 10) && wantsGo (ws.take i ++ [a]) r), []) := fun s' h => by rw [← hs]; exact hY () s' trivial h
    have hh : heldMap (ws.take (i + 1)) = mapPut a.hold (.bool true) (heldMap (ws.take i)) := by rw [hs, heldMap_snoc]
    by_cases hz : i = 0
    · have hp : ¬ 0 < i := by omega
      have ht : ws.take i = [] := by rw [hz]; rfl
      simp [head6, c6b0, wantsGo, hg, hi, ascW, freshW, hp, ht]
      cases hq : wantOk a <;> cases hr2 : sEq a.hold ⟨#[]⟩ <;> simp [hq, hr2]
      all_goals
        rw [hY' _ (by simp [head6, hw, hh, ht])]
        simp [ht]
    · obtain ⟨j, hp, hw1, hj, hlast⟩ := prev hi hm hz
      simp [head6, c6b0, wantsGo, hg, hi, ascW, freshW, hp, hw1, hj, hlast]
      cases hq : wantOk a <;> cases hr2 : sEq a.hold ⟨#[]⟩ <;> cases hr3 : sLt ws[j].copy a.copy <;> simp [hq, hr2, hr3]
      · cases hr4 : heldB (ws.take i) a.hold
        · simp
          rw [hY' _ (by simp [head6, hw, hh])]
        · simp
      · rw [hY' _ (by simp [head6, hw, hh])]
  · simp [head6, heldMap]
  · exact hl
  · simp [wantsOk]
def head7 (ws : List Want) (i : Nat) : St := hd [(0, .sl .bor 7 (ws.map Want.c)), (3, .int .i64 i)] [] 0
def head7k (ws : List Want) (i k : Nat) : St := hd [(0, .sl .bor 7 (ws.map Want.c)), (3, .int .i64 i), (4, .int .i64 k)] [] 0

theorem law7 (ws : List Want) (hl : ws.length < big) : F 7 [.sl .bor 7 (ws.map Want.c)] [] = some (.bool (wantsOk ws), []) := by
  refine F_run fn7 rfl ?_
  have hm : ws.length ≤ 9223372036854775807 := by unfold big at hl; omega
  simp [c7, wantsOk]
  by_cases h10 : ws.length ≤ 10
  · have h10' : ¬ (10 < (ws.length : Int)) := by omega
    simp [h10, h10']
    refine (loop_list ws (fun i (_ : Unit) => head7 ws i) (fun _ _ => True) (fun i r _ => (.bool (wantsGo (ws.take i) r), [])) (fun acc Y _ => ?_) (fun i a r acc Y ha hi hr _ hY => ?_) () ?_ trivial ?_).trans ?_
    · simp [head7, c7b1, wantsGo]
    · have hw : IntKind.i64.wrap ((i : Int) + 1) = (i : Int) + 1 := i64w (by omega) (by omega)
      obtain ⟨_, hg⟩ := List.getElem?_eq_some_iff.1 ha
      have hs := take_snoc ha
      have hY' : ∀ s', s'.norm [0, 3] = head7 ws (i + 1) → fin [CRes.tmp 2] 0 (Y s') = some (.bool (wantsGo (ws.take i ++ [a]) r), []) := fun s' h => by rw [← hs]; exact hY () s' trivial h
      have inner : ∀ (fs : List Fr) (st : St), st.norm [0, 3, 4] = head7k ws i 0 → fin [CRes.tmp 2] 0 (X F (.code (.loop [0, 3, 4] c7b0) :: .blk 2 :: .blk 1 :: .code (.region [⟨some 12, .mov (.tmp 3), none⟩, ⟨some 13, .bin .add (.tmp 12) (.const (.int .i64 1)), none⟩, ⟨some 3, .mov (.tmp 13), none⟩] [0, 3]) :: .back Y :: fs) (.normal, st)) = some (.bool (freshW (ws.take i) a && wantsGo (ws.take i ++ [a]) r), []) := by
        intro fs st hst
        refine (loop_list (ws.take i) (fun k (_ : Unit) => head7k ws i k) (fun _ _ => True) (fun k t _ => (.bool ((sEq a.hold ⟨#[]⟩ || !heldB t a.hold) && wantsGo (ws.take i ++ [a]) r), [])) (fun acc Z _ => ?_) (fun k b t acc Z hb hk ht _ hZ => ?_) () hst trivial ?_).trans ?_
        · have hlen : (ws.take i).length = i := by simp; omega
          rw [hlen]
          simp [head7k, c7b0]
          exact hY' _ (by simp [head7, hw])
        · have hk2 : k < i := by simp at hk; omega
          have hwk : IntKind.i64.wrap ((k : Int) + 1) = (k : Int) + 1 := i64w (by omega) (by omega)
          have hb2 : ws[k]? = some b := by rw [List.getElem?_take, if_pos hk2] at hb; exact hb
          obtain ⟨hkl, hgb⟩ := List.getElem?_eq_some_iff.1 hb2
          simp [head7k, c7b0, hk2, hi, hg, hkl, hgb]
          cases hr2 : sEq a.hold ⟨#[]⟩ <;> cases hr3 : sEq b.hold a.hold <;> simp [hr2, hr3, heldB]
          all_goals
            rw [hZ () _ trivial (by simp [head7k, hwk])]
            simp [hr2, heldB]
        · simp; unfold big; omega
        · simp [freshW]
      by_cases hz : i = 0
      · have hp : ¬ 0 < i := by omega
        have ht : ws.take i = [] := by rw [hz]; rfl
        simp [head7, c7b1, wantsGo, hg, hi, ascW, hp, ht]
        cases hq : wantOk a <;> simp [hq]
        rw [inner _ _ (by simp [head7k])]
        simp [ht]
      · obtain ⟨j, hp, hw1, hj, hlast⟩ := prev hi hm hz
        simp [head7, c7b1, wantsGo, hg, hi, ascW, hp, hw1, hj, hlast]
        cases hq : wantOk a <;> cases hr3 : sLt ws[j].copy a.copy <;> simp [hq, hr3]
        rw [inner _ _ (by simp [head7k])]
    · simp [head7]
    · exact hl
    · simp
  · have h10' : 10 < (ws.length : Int) := by omega
    simp [h10, h10']
end Go.Proofs.Ytfebkfeobdffjaa
