/- Layer 1: names, holds and wants: what the program's and the reference's checks compute. · Layer 2: runs: what the program's and the reference's checks compute. · Layer 4: asks, and what a mate must be. · Layer 6: the book of grants: what it must be. · Layer 8: worlds: what they must be. · Layer 3: ticks of runs. · Layer 5: copies of mates; falls and rises. · Layer 8: has a world settled? · Layer 3: a tick of a run's life. · Draws: wants and runs. · Runs that end in some result of a kind. · Draws: decimals, lists of wants and of runs. · The library's functions in the abstract machine; sizes of texts. · Layer 7: what is sent, as a text. · What is valid, said of lists as wholes. · The laws' own helpers, on wants: copies, sizes, comparison with the same. · The laws' own helpers, on runs. · The laws' own helpers: marks. · The laws' own helpers: marks on runs. · The laws' own helpers, on asks and mates. · The laws' own helpers: sizes only go down. · The laws' own helpers: marks on mates. · The laws' own helpers, on parcels. · Layer 7: a parcel's text: the plain function; the program's. · FnExactMateForm: the plain law. · The library's functions: that a program's own do as YthncjlbkncmekaaDoorLib says where their contracts hold. -/
import Derived.Test.YthncjlbkncmekaaDoorB2
import Derived.Test.YthncjlbkncmekaaDoorB4
import Derived.Test.YthncjlbkncmekaaDoorB1
import Derived.Lib.SplitLaws
namespace Go.Proofs.YthncjlbkncmekaaDoor
open Go
set_option linter.unusedSimpArgs false
set_option maxRecDepth 100000

def inR (n lo hi : Int) : Bool := decide (lo ≤ n) && decide (n ≤ hi)

@[simp] theorem law85 (n lo hi : Int) : F 85 [.int .i64 n, .int .i64 lo, .int .i64 hi] [] = some (.bool (inR n lo hi), []) := by
  refine F_run fn85 rfl ?_
  simp [c85, inR]
  by_cases h : lo ≤ n <;> simp [h]

@[simp] theorem law102 (n lo hi : Int) : F 102 [.int .i64 n, .int .i64 lo, .int .i64 hi] [] = some (.bool (inR n lo hi), []) := by
  refine F_run fn102 rfl ?_
  simp [c102, inR]
  by_cases h : lo ≤ n <;> simp [h]

def nameByte (b : UInt8) : Bool := decide (33 ≤ (b.toNat : Int)) && decide ((b.toNat : Int) ≤ 126)
def isName (s : ByteArray) : Bool := decide (1 ≤ s.size) && decide (s.size ≤ 20) && s.data.toList.all nameByte

theorem size_toList (s : ByteArray) : s.data.toList.length = s.size := rfl

def head105 (s : ByteArray) (i : Nat) : St := hd [(0, .str s), (13, .int .i64 s.size), (14, .int .i64 i)] [] 0

@[simp] theorem law105 (s : ByteArray) : F 105 [.str s] [] = some (.bool (isName s), []) := by
  refine F_run fn105 rfl ?_
  simp [c105, isName]
  by_cases h1 : 1 ≤ s.size
  · by_cases h2 : s.size ≤ 20
    · have h3 : ¬ (20 < (s.size : Int)) := by omega
      have h4 : 1 ≤ (s.size : Int) := by omega
      simp [h1, h2, h3, h4]
      refine (loop_list s.data.toList (fun i (_ : Unit) => head105 s i) (fun _ _ => True) (fun _ r _ => (.bool (r.all nameByte), [])) (fun acc Y _ => ?_) (fun i a r acc Y ha hi hr _ hY => ?_) () ?_ trivial ?_).trans ?_
      · rw [size_toList]
        simp [head105, c105b0]
      · rw [size_toList] at hi
        have hw : IntKind.i64.wrap ((i : Int) + 1) = (i : Int) + 1 := i64w (by omega) (by omega)
        have ha' : s.data[i]? = some a := by simpa using ha
        obtain ⟨_, ha⟩ := Array.getElem?_eq_some_iff.1 ha'
        simp [head105, c105b0, ha, hi, nameByte]
        by_cases q1 : 33 ≤ (a.toNat : Int)
        · by_cases q2 : (a.toNat : Int) ≤ 126
          · have q3 : ¬ ((a.toNat : Int) < 33) := by omega
            have q4 : ¬ (126 < (a.toNat : Int)) := by omega
            simp [q1, q2, q3, q4]
            rw [hY () _ trivial]
            simp [head105, hw]
          · have q3 : ¬ ((a.toNat : Int) < 33) := by omega
            have q4 : 126 < (a.toNat : Int) := by omega
            simp [q1, q2, q3, q4]
        · have q3 : (a.toNat : Int) < 33 := by omega
          simp [q1, q3]
      · simp [head105]
      · rw [size_toList]; unfold big; omega
      · simp
    · have h3 : 20 < (s.size : Int) := by omega
      have h4 : 1 ≤ (s.size : Int) := by omega
      simp [h1, h2, h3, h4]
  · have h4 : ¬ (1 ≤ (s.size : Int)) := by omega
    simp [h1, h4]

def head101 (s : ByteArray) (i : Nat) : St := hd [(0, .str s), (3, .int .i64 i)] [] 0

@[simp] theorem law101 (s : ByteArray) : F 101 [.str s] [] = some (.bool (isName s), []) := by
  refine F_run fn101 rfl ?_
  simp [c101, isName, inR]
  by_cases h1 : 1 ≤ s.size
  · by_cases h2 : s.size ≤ 20
    · have h3 : ¬ (20 < (s.size : Int)) := by omega
      have h4 : ¬ ((s.size : Int) < 1) := by omega
      simp [h1, h2, h3, h4]
      refine (loop_list s.data.toList (fun i (_ : Unit) => head101 s i) (fun _ _ => True) (fun _ r _ => (.bool (r.all nameByte), [])) (fun acc Y _ => ?_) (fun i a r acc Y ha hi hr _ hY => ?_) () ?_ trivial ?_).trans ?_
      · rw [size_toList]
        simp [head101, c101b0]
      · rw [size_toList] at hi
        have hw : IntKind.i64.wrap ((i : Int) + 1) = (i : Int) + 1 := i64w (by omega) (by omega)
        have ha' : s.data[i]? = some a := by simpa using ha
        obtain ⟨_, ha⟩ := Array.getElem?_eq_some_iff.1 ha'
        simp [head101, c101b0, ha, hi, nameByte]
        by_cases q1 : 33 ≤ (a.toNat : Int)
        · by_cases q2 : (a.toNat : Int) ≤ 126
          · have q3 : ¬ ((a.toNat : Int) < 33) := by omega
            have q4 : ¬ (126 < (a.toNat : Int)) := by omega
            simp [q1, q2, q3, q4]
            rw [hY () _ trivial]
            simp [head101, hw]
          · have q3 : ¬ ((a.toNat : Int) < 33) := by omega
            have q4 : 126 < (a.toNat : Int) := by omega
            simp [q1, q2, q3, q4]
        · have q3 : (a.toNat : Int) < 33 := by omega
          simp [q1, q3]
      · simp [head101]
      · rw [size_toList]; unfold big; omega
      · simp
    · have h3 : 20 < (s.size : Int) := by omega
      simp [h1, h2, h3]
  · have h4 : (s.size : Int) < 1 := by omega
    simp [h1, h4]

def isHold (s : ByteArray) : Bool := isName s && !(sEq s ⟨#[42]⟩)

@[simp] theorem law106 (s : ByteArray) : F 106 [.str s] [] = some (.bool (isHold s), []) := by
  refine F_run fn106 rfl ?_
  simp [c106, isHold]
  cases isName s <;> simp

@[simp] theorem law100 (s : ByteArray) : F 100 [.str s] [] = some (.bool (isHold s), []) := by
  refine F_run fn100 rfl ?_
  simp [c100, isHold]
  cases isName s <;> simp

def wantOk (w : Want) : Bool := isName w.copy && inR w.version 1 1000000 && (sEq w.hold ⟨#[]⟩ || isHold w.hold) && inR w.pull 0 100 && inR w.start 0 100 && inR w.dies 0 100 && inR w.grace 0 100

@[simp] theorem law82 (s : T) (n : Int) (h : T) (n1 n2 n3 n4 : Int) : F 82 [.agg [.str s, .int .i64 n, .str h, .int .i64 n1, .int .i64 n2, .int .i64 n3, .int .i64 n4]] [] = some (.bool (wantOk ⟨s, n, h, n1, n2, n3, n4⟩), []) := by
  refine F_run fn82 rfl ?_
  simp [c82, wantOk]
  repeat' split
  all_goals simp_all

@[simp] theorem law81 (s : T) (n : Int) (h : T) (n1 n2 n3 n4 : Int) : F 81 [.agg [.str s, .int .i64 n, .str h, .int .i64 n1, .int .i64 n2, .int .i64 n3, .int .i64 n4]] [] = some (.bool (wantOk ⟨s, n, h, n1, n2, n3, n4⟩), []) := by
  refine F_run fn81 rfl ?_
  simp [c81, wantOk]
  repeat' split
  all_goals simp_all

/-! ### Wants -/
def ascW (pre : List Want) (w : Want) : Bool :=
  match pre.getLast? with
  | none => true
  | some p => sLt p.copy w.copy
def heldB (pre : List Want) (k : T) : Bool := pre.any fun p => sEq p.hold k
def freshW (pre : List Want) (w : Want) : Bool := sEq w.hold ⟨#[]⟩ || !heldB pre w.hold
def wantsGo (pre : List Want) : List Want → Bool
  | [] => true
  | w :: r => wantOk w && (ascW pre w && (freshW pre w && wantsGo (pre ++ [w]) r))
def wantsOk (ws : List Want) : Bool := decide (ws.length ≤ 10) && wantsGo [] ws

/-- The holds of the wants before. -/
def heldMap (pre : List Want) : List (ByteArray × AV) := pre.foldl (fun m w => mapPut w.hold (.bool true) m) []

theorem mapGet_put (k j : ByteArray) (v : AV) : ∀ m : List (ByteArray × AV), mapGet k (mapPut j v m) = if sEq k j then some v else mapGet k m
  | [] => by simp [mapPut, mapGet]
  | (a, b) :: r => by
    by_cases h : sEq j a = true
    · rw [mapPut, if_pos h, mapGet, mapGet, (sEq_iff j a).1 h]
      by_cases h2 : sEq k a = true <;> simp [h2]
    · rw [mapPut, if_neg h, mapGet, mapGet, mapGet_put k j v r]
      by_cases h2 : sEq k a = true
      · have : sEq k j = false := by
          rw [(sEq_iff k a).1 h2, sEq_comm]; simpa using h
        simp [h2, this]
      · simp [h2]

@[simp] theorem heldMap_get (pre : List Want) (k : ByteArray) : (mapGet k (heldMap pre)).getD (.bool false) = .bool (heldB pre k) := by
  have h : ∀ (l : List Want) (m : List (ByteArray × AV)) (b : Bool), (mapGet k m).getD (.bool false) = .bool b → (mapGet k (l.foldl (fun m w => mapPut w.hold (.bool true) m) m)).getD (.bool false) = .bool (b || l.any fun p => sEq p.hold k) := by
    intro l
    induction l with
    | nil => intro m b h; simpa using h
    | cons w l ih =>
      intro m b h
      rw [List.foldl_cons, ih _ (b || sEq w.hold k)]
      · simp [Bool.or_assoc]
      · rw [mapGet_put, sEq_comm w.hold k]
        by_cases h2 : sEq k w.hold = true
        · simp [h2]
        · simp [h2, h]
  have := h pre [] false rfl
  rw [Bool.false_or] at this
  exact this

@[simp] theorem heldB_nil (k : T) : heldB [] k = false := rfl
theorem heldB_snoc (pre : List Want) (w : Want) (k : T) : heldB (pre ++ [w]) k = (heldB pre k || sEq w.hold k) := by simp [heldB]
theorem heldMap_snoc (pre : List Want) (w : Want) : heldMap (pre ++ [w]) = mapPut w.hold (.bool true) (heldMap pre) := by simp [heldMap]

def head6 (m : Md) (ws : List Want) (i : Nat) : St := hd [(0, .sl m 7 (ws.map Want.c)), (3, .mapr 0), (7, .sl m 7 (ws.map Want.c)), (8, .int .i64 ws.length), (9, .int .i64 i)] [.map false (heldMap (ws.take i))] 0

theorem take_snoc {α : Type} {xs : List α} {j : Nat} {a : α} (h : xs[j]? = some a) : xs.take (j + 1) = xs.take j ++ [a] := by
  rw [List.take_add_one, h]; rfl

/-- The place before. -/
theorem prev {α : Type} {xs : List α} {i : Nat} (hi : i < xs.length) (hm : xs.length ≤ 9223372036854775807) (hp : i ≠ 0) : ∃ j : Nat, 0 < i ∧ IntKind.i64.wrap ((i : Int) - 1) = (j : Int) ∧ ∃ h : j < xs.length, (xs.take i).getLast? = some (xs[j]'h) := by
  obtain ⟨j, rfl⟩ : ∃ j, i = j + 1 := ⟨i - 1, by omega⟩
  refine ⟨j, by omega, ?_, by omega, ?_⟩
  · rw [i64w] <;> omega
  · rw [take_snoc (List.getElem?_eq_getElem (show j < xs.length by omega)), List.getLast?_concat]

theorem law6 (ws : List Want) (hl : ws.length < big) : F 6 [.sl .bor 7 (ws.map Want.c)] [] = some (.bool (wantsOk ws), []) := by
  refine F_run fn6 rfl ?_
  have hm : ws.length ≤ 9223372036854775807 := by unfold big at hl; omega
  simp [c6]
  refine (loop_list ws (fun i (_ : Unit) => head6 .bor ws i) (fun _ _ => True) (fun i r _ => (.bool (decide (ws.length ≤ 10) && wantsGo (ws.take i) r), [])) (fun acc Y _ => ?_) (fun i a r acc Y ha hi hr _ hY => ?_) () ?_ trivial ?_).trans ?_
  · simp [head6, c6b0, wantsGo]
    omega
  · have hw : IntKind.i64.wrap ((i : Int) + 1) = (i : Int) + 1 := i64w (by omega) (by omega)
    obtain ⟨_, hg⟩ := List.getElem?_eq_some_iff.1 ha
    have hs := take_snoc ha
    have hY' : ∀ s', s'.norm [0, 3, 7, 8, 9] = head6 .bor ws (i + 1) → fin [CRes.tmp 2] 0 (Y s') = some (.bool (decide (ws.length ≤ 10) && wantsGo (ws.take i ++ [a]) r), []) := fun s' h => by rw [← hs]; exact hY () s' trivial h
    have hh : heldMap (ws.take (i + 1)) = mapPut a.hold (.bool true) (heldMap (ws.take i)) := by rw [hs, heldMap_snoc]
    by_cases hz : i = 0
    · have hp : ¬ 0 < i := by omega
      have ht : ws.take i = [] := by rw [hz]; rfl
      simp [head6, c6b0, wantsGo, hg, hi, ascW, freshW, hp, ht]
      cases hq : wantOk a <;> cases hr2 : sEq a.hold ⟨#[]⟩ <;> simp [hq, hr2]
      all_goals
        rw [hY' _ (by simp [head6, hw, hh, ht])]
        simp [ht]
    · obtain ⟨j, hp, hw1, hj, hlast⟩ := prev hi hm hz
      simp [head6, c6b0, wantsGo, hg, hi, ascW, freshW, hp, hw1, hj, hlast]
      cases hq : wantOk a <;> cases hr2 : sEq a.hold ⟨#[]⟩ <;> cases hr3 : sLt ws[j].copy a.copy <;> simp [hq, hr2, hr3]
      · cases hr4 : heldB (ws.take i) a.hold
        · simp
          rw [hY' _ (by simp [head6, hw, hh])]
        · simp
      · rw [hY' _ (by simp [head6, hw, hh])]
  · simp [head6, heldMap]
  · exact hl
  · simp [wantsOk]
def head7 (ws : List Want) (i : Nat) : St := hd [(0, .sl .bor 7 (ws.map Want.c)), (3, .int .i64 i)] [] 0
def head7k (ws : List Want) (i k : Nat) : St := hd [(0, .sl .bor 7 (ws.map Want.c)), (3, .int .i64 i), (4, .int .i64 k)] [] 0

theorem law7 (ws : List Want) (hl : ws.length < big) : F 7 [.sl .bor 7 (ws.map Want.c)] [] = some (.bool (wantsOk ws), []) := by
  refine F_run fn7 rfl ?_
  have hm : ws.length ≤ 9223372036854775807 := by unfold big at hl; omega
  simp [c7, wantsOk]
  by_cases h10 : ws.length ≤ 10
  · have h10' : ¬ (10 < (ws.length : Int)) := by omega
    simp [h10, h10']
    refine (loop_list ws (fun i (_ : Unit) => head7 ws i) (fun _ _ => True) (fun i r _ => (.bool (wantsGo (ws.take i) r), [])) (fun acc Y _ => ?_) (fun i a r acc Y ha hi hr _ hY => ?_) () ?_ trivial ?_).trans ?_
    · simp [head7, c7b1, wantsGo]
    · have hw : IntKind.i64.wrap ((i : Int) + 1) = (i : Int) + 1 := i64w (by omega) (by omega)
      obtain ⟨_, hg⟩ := List.getElem?_eq_some_iff.1 ha
      have hs := take_snoc ha
      have hY' : ∀ s', s'.norm [0, 3] = head7 ws (i + 1) → fin [CRes.tmp 2] 0 (Y s') = some (.bool (wantsGo (ws.take i ++ [a]) r), []) := fun s' h => by rw [← hs]; exact hY () s' trivial h
      have inner : ∀ (fs : List Fr) (st : St), st.norm [0, 3, 4] = head7k ws i 0 → fin [CRes.tmp 2] 0 (X F (.code (.loop [0, 3, 4] c7b0) :: .blk 2 :: .blk 1 :: .code (.region [⟨some 12, .mov (.tmp 3), none⟩, ⟨some 13, .bin .add (.tmp 12) (.const (.int .i64 1)), none⟩, ⟨some 3, .mov (.tmp 13), none⟩] [0, 3]) :: .back Y :: fs) (.normal, st)) = some (.bool (freshW (ws.take i) a && wantsGo (ws.take i ++ [a]) r), []) := by
        intro fs st hst
        refine (loop_list (ws.take i) (fun k (_ : Unit) => head7k ws i k) (fun _ _ => True) (fun k t _ => (.bool ((sEq a.hold ⟨#[]⟩ || !heldB t a.hold) && wantsGo (ws.take i ++ [a]) r), [])) (fun acc Z _ => ?_) (fun k b t acc Z hb hk ht _ hZ => ?_) () hst trivial ?_).trans ?_
        · have hlen : (ws.take i).length = i := by simp; omega
          rw [hlen]
          simp [head7k, c7b0]
          exact hY' _ (by simp [head7, hw])
        · have hk2 : k < i := by simp at hk; omega
          have hwk : IntKind.i64.wrap ((k : Int) + 1) = (k : Int) + 1 := i64w (by omega) (by omega)
          have hb2 : ws[k]? = some b := by rw [List.getElem?_take, if_pos hk2] at hb; exact hb
          obtain ⟨hkl, hgb⟩ := List.getElem?_eq_some_iff.1 hb2
          simp [head7k, c7b0, hk2, hi, hg, hkl, hgb]
          cases hr2 : sEq a.hold ⟨#[]⟩ <;> cases hr3 : sEq b.hold a.hold <;> simp [hr2, hr3, heldB]
          all_goals
            rw [hZ () _ trivial (by simp [head7k, hwk])]
            simp [hr2, heldB]
        · simp; unfold big; omega
        · simp [freshW]
      by_cases hz : i = 0
      · have hp : ¬ 0 < i := by omega
        have ht : ws.take i = [] := by rw [hz]; rfl
        simp [head7, c7b1, wantsGo, hg, hi, ascW, hp, ht]
        cases hq : wantOk a <;> simp [hq]
        rw [inner _ _ (by simp [head7k])]
        simp [ht]
      · obtain ⟨j, hp, hw1, hj, hlast⟩ := prev hi hm hz
        simp [head7, c7b1, wantsGo, hg, hi, ascW, hp, hw1, hj, hlast]
        cases hq : wantOk a <;> cases hr3 : sLt ws[j].copy a.copy <;> simp [hq, hr3]
        rw [inner _ _ (by simp [head7k])]
    · simp [head7]
    · exact hl
    · simp
  · have h10' : 10 < (ws.length : Int) := by omega
    simp [h10, h10']
end Go.Proofs.YthncjlbkncmekaaDoor

namespace Go.Proofs.YthncjlbkncmekaaDoor
open Go
set_option linter.unusedSimpArgs false
set_option maxRecDepth 100000

def aliveS (n : Int) : Bool := n == 3 || n == 4 || n == 6
@[simp] theorem aliveS_2 : aliveS 2 = false := rfl
def alive (r : Run) : Bool := aliveS r.state

/-- Has it its hold for long enough, or none? -/
def leasedB (hold : T) (til clock : Int) : Bool := sEq hold ⟨#[]⟩ || decide (IntKind.i64.wrap (clock + 4) ≤ til)
def leased (r : Run) (clock : Int) : Bool := leasedB r.want.hold r.til clock

def runOk (r : Run) (clock : Int) : Bool :=
  wantOk r.want && (inR r.state 1 6 && (inR r.left 0 100 && (!(r.state == 2 && r.left != 0) && (inR r.falls 0 1000 && (inR r.til 0 1000016 && (!(sEq r.want.hold ⟨#[]⟩ && r.til != 0) && (!alive r || leased r clock)))))))

def ascR (pre : List Run) (r : Run) : Bool :=
  match pre.getLast? with
  | none => true
  | some p => sLt p.want.copy r.want.copy
def runsGo (clock : Int) (pre : List Run) : List Run → Bool
  | [] => true
  | r :: rs => runOk r clock && (ascR pre r && runsGo clock (pre ++ [r]) rs)
def runsOk (rs : List Run) (clock : Int) : Bool := decide (rs.length ≤ 20) && runsGo clock [] rs

def head12 (rs : List Run) (c : Int) (i : Nat) : St := hd [(0, .sl .bor 11 (rs.map Run.c)), (1, .int .i64 c), (5, .int .i64 i)] [] 0

def head11 (rs : List Run) (c : Int) (i : Nat) : St := hd [(0, .sl .bor 11 (rs.map Run.c)), (1, .int .i64 c), (10, .sl .bor 11 (rs.map Run.c)), (11, .int .i64 rs.length), (12, .int .i64 i)] [] 0

end Go.Proofs.YthncjlbkncmekaaDoor

namespace Go.Proofs.YthncjlbkncmekaaDoor
open Go
set_option linter.unusedSimpArgs false
set_option maxRecDepth 100000

/-- The place of a hold among asks, -1 if it is not there. -/
def askAtGo (h : T) : List Ask → Nat → Int
  | [], _ => -1
  | a :: r, i => if sEq a.hold h then i else askAtGo h r (i + 1)
def askAt (l : List Ask) (h : T) : Int := askAtGo h l 0

def head113 (l : List Ask) (h : T) (i : Nat) : St := hd [(1, .str h), (7, .sl .bor 4 (l.map Ask.c)), (8, .int .i64 l.length), (9, .int .i64 i)] [] 0

def head110 (l : List Ask) (h : T) (i : Nat) : St := hd [(0, .sl .bor 4 (l.map Ask.c)), (1, .str h), (5, .int .i64 i)] [] 0

def askOk (c : Int) (a : Ask) : Bool := isHold a.hold && (isName a.copy && (decide (0 ≤ a.first) && (decide (a.first ≤ a.at_) && decide (a.at_ ≤ c))))
def ascA (pre : List Ask) (a : Ask) : Bool :=
  match pre.getLast? with
  | none => true
  | some p => sLt p.hold a.hold
def asksGo (c : Int) (pre : List Ask) : List Ask → Bool
  | [] => true
  | a :: r => askOk c a && (ascA pre a && asksGo c (pre ++ [a]) r)
def asksOk (l : List Ask) (c : Int) : Bool := decide (l.length ≤ 40) && asksGo c [] l

def head114 (l : List Ask) (c : Int) (i : Nat) : St := hd [(0, .sl .bor 4 (l.map Ask.c)), (1, .int .i64 c), (7, .sl .bor 4 (l.map Ask.c)), (8, .int .i64 l.length), (9, .int .i64 i)] [] 0

def head111 (l : List Ask) (c : Int) (i : Nat) : St := hd [(0, .sl .bor 4 (l.map Ask.c)), (1, .int .i64 c), (5, .int .i64 i)] [] 0

structure Mate.small (m : Mate) : Prop where
  wants : m.wants.length ≤ 1048576
  runs : m.runs.length ≤ 1048576
  asks : m.asks.length ≤ 1048576
  gives : m.gives.length ≤ 1048576

/-- The parts of a mate, each alone. -/
def mateParts (m : Mate) : Bool :=
  isName m.name && (inR m.clock 0 1000000 && (inR m.seen 0 1000000 && (wantsOk m.wants && ((m.known || m.wants.isEmpty) && (runsOk m.runs m.clock && (asksOk m.asks m.clock && asksOk m.gives m.clock))))))
def apartGo (gives : List Ask) (l : List Ask) : Bool := l.all fun a => decide (askAt gives a.hold < 0)
def downRuns (l : List Run) : Bool := l.all fun r => alive r || !sEq r.want.hold ⟨#[]⟩
def mateDown (m : Mate) : Bool := !m.known && ((m.asks.isEmpty && m.gives.isEmpty) && (m.seen == 0 && downRuns m.runs))
def mateValid (m : Mate) : Bool := mateParts m && (apartGo m.gives m.asks && (m.up || mateDown m))

def head28a (m : Mate) (i : Nat) : St := hd [(1, .ptr 0 0 0), (65, .sl .bor 4 (m.asks.map Ask.c)), (66, .int .i64 m.asks.length), (67, .int .i64 i)] [.box (m.c .bor)] 0
def head28b (m : Mate) (i : Nat) : St := hd [(99, .sl .bor 11 (m.runs.map Run.c)), (100, .int .i64 m.runs.length), (101, .int .i64 i)] [] 0

def head29a (m : Mate) (i : Nat) : St := hd [(1, .ptr 0 0 0), (3, .int .i64 i)] [.box (m.c .bor)] 0
def head29b (m : Mate) (i : Nat) : St := hd [(1, .ptr 0 0 0), (4, .int .i64 i)] [.box (m.c .bor)] 0

end Go.Proofs.YthncjlbkncmekaaDoor

namespace Go.Proofs.YthncjlbkncmekaaDoor
open Go
set_option linter.unusedSimpArgs false
set_option maxRecDepth 100000

def grantOk (t : Int) (g : Grant) : Bool := isHold g.hold && (isName g.berth && (isName g.copy && (inR g.at_ 0 1000000 && inR g.til 0 (IntKind.i64.wrap (t + 32)))))
def ascG (pre : List Grant) (g : Grant) : Bool :=
  match pre.getLast? with
  | none => true
  | some p => sLt p.hold g.hold
def grantsGo (t : Int) (pre : List Grant) : List Grant → Bool
  | [] => true
  | g :: r => grantOk t g && (ascG pre g && grantsGo t (pre ++ [g]) r)
def ascP (pre : List Place) (p : Place) : Bool :=
  match pre.getLast? with
  | none => true
  | some q => sLt q.berth p.berth
def heldIn (pre : List Place) (k : T) : Bool := heldB (pre.flatMap Place.wants) k
def freshP (pre : List Place) (p : Place) : Bool := p.wants.all fun w => sEq w.hold ⟨#[]⟩ || !heldIn pre w.hold
def placeOk (p : Place) : Bool := isName p.berth && (inR p.seen 1 1000000 && wantsOk p.wants)
def placesGo (pre : List Place) : List Place → Bool
  | [] => true
  | p :: r => placeOk p && (ascP pre p && (freshP pre p && placesGo (pre ++ [p]) r))
def landOk (l : Land) : Bool :=
  inR l.time 0 2000000 && (decide (l.time.tmod 2 = 0) && (decide (l.grants.length ≤ 40) && (decide (l.places.length ≤ 4) && (grantsGo l.time [] l.grants && placesGo [] l.places))))

structure Place.small (p : Place) : Prop where
  wants : p.wants.length ≤ 1048576
structure Land.small (l : Land) : Prop where
  grants : l.grants.length ≤ 1048576
  places : l.places.length ≤ 1048576
  each : ∀ p ∈ l.places, p.small

/-- In wants that are ok no hold comes twice. -/
theorem wantsGo_fresh : ∀ (r pre : List Want), wantsGo pre r = true → ∀ j w, r[j]? = some w → freshW (pre ++ r.take j) w = true
  | [], _, _, j, w, h => by simp at h
  | a :: r, pre, hg, j, w, h => by
    simp only [wantsGo, Bool.and_eq_true] at hg
    cases j with
    | zero => simp at h; subst h; simpa using hg.2.2.1
    | succ j =>
      have := wantsGo_fresh r (pre ++ [a]) hg.2.2.2 j w (by simpa using h)
      simpa using this

theorem wantsOk_fresh {ws : List Want} (h : wantsOk ws = true) {j : Nat} {w : Want} (hw : ws[j]? = some w) (hne : sEq w.hold ⟨#[]⟩ = false) : heldB (ws.take j) w.hold = false := by
  unfold wantsOk at h
  rw [Bool.and_eq_true] at h
  have := wantsGo_fresh ws [] h.2 j w hw
  simp only [List.nil_append, freshW, hne, Bool.false_or, Bool.not_eq_true'] at this
  exact this

theorem heldB_append (a b : List Want) (k : T) : heldB (a ++ b) k = (heldB a k || heldB b k) := by simp [heldB]
theorem heldMap_append (a b : List Want) : heldMap (a ++ b) = b.foldl (fun m w => mapPut w.hold (.bool true) m) (heldMap a) := by simp [heldMap]

def head23g (l : Land) (m : Md) (i : Nat) : St := hd [(1, .ptr 0 0 0), (33, .sl .bor 5 (l.grants.map Grant.c)), (34, .int .i64 l.grants.length), (35, .int .i64 i)] [.box (l.c .bor m)] 0
def head23p (l : Land) (m : Md) (i : Nat) : St := hd [(1, .ptr 0 0 0), (5, .mapr 1), (90, .sl .bor 3 (l.places.map (Place.c m))), (91, .int .i64 l.places.length), (92, .int .i64 i)]
  [.box (l.c .bor m), .map false (heldMap ((l.places.take i).flatMap Place.wants))] 0
def head23w (l : Land) (m : Md) (i : Nat) (ws : List Want) (j : Nat) : St := hd [(1, .ptr 0 0 0), (5, .mapr 1), (90, .sl .bor 3 (l.places.map (Place.c m))), (91, .int .i64 l.places.length), (92, .int .i64 i), (130, .sl .bor 7 (ws.map Want.c)), (131, .int .i64 ws.length), (132, .int .i64 j)]
  [.box (l.c .bor m), .map false (heldMap ((l.places.take i).flatMap Place.wants ++ ws.take j))] 0

def cw (w x : Want) : Bool := !sEq w.hold ⟨#[]⟩ && sEq w.hold x.hold
theorem freshP_any (pre : List Place) (p : Place) : (!(pre.any fun q => p.wants.any fun w => q.wants.any (cw w))) = freshP pre p := by
  rw [Bool.eq_iff_iff, Bool.not_eq_true', List.any_eq_false]
  unfold freshP
  rw [List.all_eq_true]
  constructor
  · intro h w hw
    cases h1 : sEq w.hold ⟨#[]⟩
    · simp only [Bool.false_or, Bool.not_eq_true', heldIn, heldB, List.any_eq_false, List.mem_flatMap]
      rintro x ⟨q, hq, hx⟩ h2
      apply h q hq
      rw [List.any_eq_true]
      refine ⟨w, hw, ?_⟩
      rw [List.any_eq_true]
      exact ⟨x, hx, by simp [cw, h1]; rw [sEq_comm]; exact h2⟩
    · rfl
  · intro h q hq h2
    obtain ⟨w, hw, h3⟩ := List.any_eq_true.1 h2
    obtain ⟨x, hx, h4⟩ := List.any_eq_true.1 h3
    simp only [cw, Bool.and_eq_true, Bool.not_eq_true'] at h4
    have h5 := h w hw
    rw [h4.1] at h5
    simp only [Bool.false_or, Bool.not_eq_true', heldIn, heldB, List.any_eq_false, List.mem_flatMap] at h5
    exact h5 x ⟨q, hq, hx⟩ (by rw [sEq_comm]; exact h4.2)

def head99 (ps : List Place) (m : Md) (i : Nat) : St := hd [(0, .sl .bor 3 (ps.map (Place.c m))), (3, .int .i64 i)] [] 0
def head99k (ps : List Place) (m : Md) (i : Nat) (p : Place) (k : Nat) : St := hd [(0, .sl .bor 3 (ps.map (Place.c m))), (3, .int .i64 i), (4, .ptr 0 0 0), (5, .int .i64 k)] [.box (p.c .bor)] 0
def head99j (ps : List Place) (m : Md) (i : Nat) (p : Place) (k j : Nat) : St := hd [(0, .sl .bor 3 (ps.map (Place.c m))), (3, .int .i64 i), (4, .ptr 0 0 0), (5, .int .i64 k), (6, .int .i64 j)] [.box (p.c .bor)] 0
def head99n (ps : List Place) (m : Md) (i : Nat) (p : Place) (k j n : Nat) : St := hd [(0, .sl .bor 3 (ps.map (Place.c m))), (3, .int .i64 i), (4, .ptr 0 0 0), (5, .int .i64 k), (6, .int .i64 j), (7, .int .i64 n)] [.box (p.c .bor)] 0

def head24 (l : Land) (m : Md) (i : Nat) : St := hd [(1, .ptr 0 0 0), (3, .int .i64 i)] [.box (l.c .bor m)] 0

theorem prevOr {α : Type} {xs : List α} {i : Nat} (hi : i < xs.length) (hm : xs.length ≤ 9223372036854775807) : (¬ 0 < i ∧ (xs.take i).getLast? = none) ∨ ∃ j : Nat, 0 < i ∧ IntKind.i64.wrap ((i : Int) - 1) = (j : Int) ∧ ∃ h : j < xs.length, (xs.take i).getLast? = some (xs[j]'h) := by
  by_cases hz : i = 0
  · left; exact ⟨by omega, by rw [hz]; rfl⟩
  · right; exact prev hi hm hz

end Go.Proofs.YthncjlbkncmekaaDoor

namespace Go.Proofs.YthncjlbkncmekaaDoor
open Go
set_option linter.unusedSimpArgs false
set_option maxRecDepth 100000

def ascM (pre : List Mate) (m : Mate) : Bool :=
  match pre.getLast? with
  | none => true
  | some p => sLt p.name m.name
def matesGo (pre : List Mate) : List Mate → Bool
  | [] => true
  | m :: r => mateValid m && (ascM pre m && matesGo (pre ++ [m]) r)
def worldOk (w : Wld) : Bool := landOk w.land && (decide (1 ≤ w.mates.length) && (decide (w.mates.length ≤ 4) && (decide (w.flight.length ≤ 300) && matesGo [] w.mates)))

structure Wld.small (w : Wld) : Prop where
  land : w.land.small
  mates : w.mates.length ≤ 1048576
  each : ∀ m ∈ w.mates, m.small
  flight : w.flight.length ≤ 1048576

def head57 (w : Wld) (mm : Md) (i : Nat) : St := hd [(1, .ptr 0 0 0), (28, .sl .bor 9 (w.mates.map (Mate.c mm))), (29, .int .i64 w.mates.length), (30, .int .i64 i)] [.box (w.c .bor mm)] 0

def head58 (w : Wld) (mm : Md) (i : Nat) : St := hd [(1, .ptr 0 0 0), (3, .int .i64 i)] [.box (w.c .bor mm)] 0

end Go.Proofs.YthncjlbkncmekaaDoor

namespace Go.Proofs.YthncjlbkncmekaaDoor
open Go
set_option linter.unusedSimpArgs false
set_option maxRecDepth 100000

/-- The machine's watchdog, on one run. -/
def wd (c : Int) (r : Run) : Run := if alive r && !leased r c then { r with state := 2, left := 0 } else r

/-- An array of the call's own that is filled from nothing: nil at first. -/
def ownV (sz : Nat) (xs : List (List AV)) : AV := match xs with
  | [] => .sl .own sz []
  | _ => .ref 0
def ownH (sz : Nat) (xs : List (List AV)) : List AO := match xs with
  | [] => []
  | xs => [.arr sz xs]
@[simp] theorem ownV_nil (sz : Nat) : ownV sz [] = .sl .own sz [] := rfl
@[simp] theorem ownH_nil (sz : Nat) : ownH sz [] = [] := rfl
@[simp] theorem ownV_cons (sz : Nat) (x : List AV) (xs : List (List AV)) : ownV sz (x :: xs) = .ref 0 := rfl
@[simp] theorem ownH_cons (sz : Nat) (x : List AV) (xs : List (List AV)) : ownH sz (x :: xs) = [.arr sz (x :: xs)] := rfl
@[simp] theorem ownV_snoc (sz : Nat) (x : List AV) (xs : List (List AV)) : ownV sz (xs ++ [x]) = .ref 0 := by cases xs <;> rfl
@[simp] theorem ownH_snoc (sz : Nat) (x : List AV) (xs : List (List AV)) : ownH sz (xs ++ [x]) = [.arr sz (xs ++ [x])] := by cases xs <;> rfl

def head18 (rs : List Run) (c : Int) (i : Nat) (acc : List Run) : St := hd [(1, .int .i64 c), (5, ownV 11 (acc.map Run.c)), (8, .sl .bor 11 (rs.map Run.c)), (9, .int .i64 rs.length), (10, .int .i64 i)] (ownH 11 (acc.map Run.c)) 0

def head20 (rs : List Run) (c : Int) (i : Nat) (acc : List Run) : St := hd [(0, .sl .bor 11 (rs.map Run.c)), (1, .int .i64 c), (5, .ref 0), (6, .int .i64 i)] [.arr 11 (acc.map Run.c)] 0

end Go.Proofs.YthncjlbkncmekaaDoor

namespace Go.Proofs.YthncjlbkncmekaaDoor
open Go
set_option linter.unusedSimpArgs false
set_option maxRecDepth 100000

@[simp] theorem plain_want (ws : List Want) : rowsPlain (ws.map Want.c) = true := by simp [rowsPlain]
@[simp] theorem plain_run (ws : List Run) : rowsPlain (ws.map Run.c) = true := by simp [rowsPlain]
@[simp] theorem plain_ask (ws : List Ask) : rowsPlain (ws.map Ask.c) = true := by simp [rowsPlain]
@[simp] theorem plain_grant (ws : List Grant) : rowsPlain (ws.map Grant.c) = true := by simp [rowsPlain]
@[simp] theorem plain_text (ws : List T) : rowsPlain (ws.map fun s => [.str s]) = true := by simp [rowsPlain]

def Mate.zero : Mate := ⟨⟨#[]⟩, false, 0, false, 0, [], [], [], []⟩

def mateRise (m : Mate) : Mate := if mateValid m then { m with up := m.up || decide (m.clock < 1000000) } else .zero

theorem valid_clock {m : Mate} (h : mateValid m = true) : 0 ≤ m.clock ∧ m.clock ≤ 1000000 := by
  unfold mateValid mateParts at h
  simp only [Bool.and_eq_true] at h
  have := h.1.2.1
  simpa [inR] using this

/-- What is left of a run behind a fall. -/
def fallRun (machine : Bool) (r : Run) : Option Run :=
  if alive r then (if machine then (if sEq r.want.hold ⟨#[]⟩ then none else some { r with state := 2, left := 0 }) else some r) else none
def mateFall (m : Mate) (machine : Bool) : Mate := if mateValid m then { Mate.zero with name := m.name, clock := m.clock, runs := m.runs.filterMap (fallRun machine) } else .zero

def ownVi (id sz : Nat) (xs : List (List AV)) : AV := match xs with
  | [] => .sl .own sz []
  | _ => .ref id
@[simp] theorem ownVi_nil (id sz : Nat) : ownVi id sz [] = .sl .own sz [] := rfl
@[simp] theorem ownVi_cons (id sz : Nat) (x : List AV) (xs : List (List AV)) : ownVi id sz (x :: xs) = .ref id := rfl
@[simp] theorem ownVi_snoc (id sz : Nat) (x : List AV) (xs : List (List AV)) : ownVi id sz (xs ++ [x]) = .ref id := by cases xs <;> rfl

def zeroCells : List AV := [.str ⟨#[]⟩, .bool false, .int .i64 0, .bool false, .int .i64 0, .sl .own 7 [], .sl .own 11 [], .sl .own 4 [], .sl .own 4 []]
def fallCells (m : Mate) (acc : List Run) : List AV := [.str m.name, .bool false, .int .i64 m.clock, .bool false, .int .i64 0, .sl .own 7 [], ownVi 2 11 (acc.map Run.c), .sl .own 4 [], .sl .own 4 []]

def head36 (m : Mate) (b : Bool) (i : Nat) (acc : List Run) : St := hd [(1, .bool b), (4, .ptr 0 0 0), (5, .ptr 1 0 0), (18, .sl .bor 11 (m.runs.map Run.c)), (19, .int .i64 m.runs.length), (20, .int .i64 i)] (.box zeroCells :: .box (fallCells m acc) :: ownH 11 (acc.map Run.c)) 0

def fallCells3 (m : Mate) (acc : List Run) : List AV := [.str m.name, .bool false, .int .i64 m.clock, .bool false, .int .i64 0, .sl .own 7 [], ownVi 3 11 (acc.map Run.c), .sl .own 4 [], .sl .own 4 []]
def head32 (m : Mate) (b : Bool) (i : Nat) (acc : List Run) : St := hd [(1, .bool b), (2, .ptr 0 0 0), (4, .ptr 1 0 0), (5, .ptr 2 0 0), (6, .int .i64 i)] (.box (m.c .bor) :: .box zeroCells :: .box (fallCells3 m acc) :: ownH 11 (acc.map Run.c)) 0

theorem filterMap_len {α β : Type} (f : α → Option β) : ∀ xs : List α, (xs.filterMap f).length ≤ xs.length := fun xs => List.length_filterMap_le f xs

end Go.Proofs.YthncjlbkncmekaaDoor

namespace Go.Proofs.YthncjlbkncmekaaDoor
open Go
set_option linter.unusedSimpArgs false
set_option maxRecDepth 100000

def eqWant (a b : Want) : Bool := sEq a.copy b.copy && (a.version == b.version && (sEq a.hold b.hold && (a.pull == b.pull && (a.start == b.start && (a.dies == b.dies && a.grace == b.grace)))))
theorem eqWant_iff (a b : Want) : eqWant a b = true ↔ a = b := by
  cases a; cases b
  simp [eqWant, sEq_iff]

@[simp] theorem eqCells_want (s1 : T) (n1 : Int) (h1 : T) (p1 q1 d1 g1 : Int) (s2 : T) (n2 : Int) (h2 : T) (p2 q2 d2 g2 : Int) :
    eqCells [.s, .i, .s, .i, .i, .i, .i] [.str s1, .int .i64 n1, .str h1, .int .i64 p1, .int .i64 q1, .int .i64 d1, .int .i64 g1] [.str s2, .int .i64 n2, .str h2, .int .i64 p2, .int .i64 q2, .int .i64 d2, .int .i64 g2] =
      some (eqWant ⟨s1, n1, h1, p1, q1, d1, g1⟩ ⟨s2, n2, h2, p2, q2, d2, g2⟩) := by
  simp only [eqCells, eqCell, eqWant, if_true, List.length_cons, List.length_nil, and_self]
  cases sEq s1 s2 <;> simp only [Bool.false_and, Bool.true_and]
  cases n1 == n2 <;> simp only [Bool.false_and, Bool.true_and]
  cases sEq h1 h2 <;> simp only [Bool.false_and, Bool.true_and]
  cases p1 == p2 <;> simp only [Bool.false_and, Bool.true_and]
  cases q1 == q2 <;> simp only [Bool.false_and, Bool.true_and]
  cases d1 == d2 <;> simp only [Bool.false_and, Bool.true_and]
  cases g1 == g2 <;> rfl

def sameGo : List Want → List Want → Bool
  | a :: as, b :: bs => eqWant a b && sameGo as bs
  | _, _ => true
def sameWants (a b : List Want) : Bool := decide (a.length = b.length) && sameGo a b

def head138 (a b : List Want) (i : Nat) : St := hd [(0, .sl .bor 7 (a.map Want.c)), (1, .sl .bor 7 (b.map Want.c)), (5, .int .i64 i)] [] 0

/-- What a berth is to run: of the last place of its name. -/
def wantsFor (name : T) (acc : List Want) : List Place → List Want
  | [] => acc
  | p :: r => wantsFor name (if sEq p.berth name then p.wants else acc) r
def runsAre : List Run → List Want → Bool
  | r :: rs, w :: ws => eqWant r.want w && (r.state == 4 && runsAre rs ws)
  | _, _ => true
def settledRuns (up : Bool) (rs : List Run) (ws : List Want) : Bool := up && (decide (rs.length = ws.length) && runsAre rs ws)
def settledMate (ps : List Place) (m : Mate) : Bool := settledRuns m.up m.runs (wantsFor m.name [] ps)
def settled (w : Wld) : Bool := worldOk w && w.mates.all (settledMate w.land.places)

def wantV (acc : Option (List Want)) : AV := match acc with
  | none => .sl .own 7 []
  | some ws => .sl .bor 7 (ws.map Want.c)

def head68m (w : Wld) (mm : Md) (i : Nat) : St := hd [(1, .ptr 0 0 0), (14, .sl .bor 9 (w.mates.map (Mate.c mm))), (15, .int .i64 w.mates.length), (16, .int .i64 i)] [.box (w.c .bor mm)] 0
def head68p (w : Wld) (mm : Md) (i : Nat) (m : Mate) (j : Nat) (acc : Option (List Want)) : St := hd [(1, .ptr 0 0 0), (4, .ptr 1 0 0), (5, wantV acc), (14, .sl .bor 9 (w.mates.map (Mate.c mm))), (15, .int .i64 w.mates.length), (16, .int .i64 i), (22, .sl .bor 3 (w.land.places.map (Place.c mm))), (23, .int .i64 w.land.places.length), (24, .int .i64 j)] [.box (w.c .bor mm), .box (m.c .bor)] 0
def head68r (w : Wld) (mm : Md) (i : Nat) (m : Mate) (ws : List Want) (j : Nat) : St := hd [(1, .ptr 0 0 0), (5, .sl .bor 7 (ws.map Want.c)), (14, .sl .bor 9 (w.mates.map (Mate.c mm))), (15, .int .i64 w.mates.length), (16, .int .i64 i), (48, .sl .bor 11 (m.runs.map Run.c)), (49, .int .i64 m.runs.length), (50, .int .i64 j)] [.box (w.c .bor mm)] 0
def head68e (w : Wld) (mm : Md) (i : Nat) : St := hd [(1, .ptr 0 0 0), (5, .sl .own 7 []), (14, .sl .bor 9 (w.mates.map (Mate.c mm))), (15, .int .i64 w.mates.length), (16, .int .i64 i), (48, .sl .bor 11 []), (49, .int .i64 0), (50, .int .i64 0)] [.box (w.c .bor mm)] 0

theorem runsAre_same : ∀ (rs : List Run) (ws : List Want), rs.length = ws.length → (rs.all (fun r => r.state == 4) && sameGo (rs.map Run.want) ws) = runsAre rs ws
  | [], [], _ => rfl
  | r :: rs, w :: ws, h => by
    have ih := runsAre_same rs ws (by simpa using h)
    simp only [List.all_cons, List.map_cons, sameGo, runsAre, ← ih]
    cases r.state == 4 <;> cases eqWant r.want w <;> cases rs.all (fun r => r.state == 4) <;> rfl
  | [], _ :: _, h => by simp at h
  | _ :: _, [], h => by simp at h

theorem settled_same (up : Bool) (rs : List Run) (ws : List Want) : (rs.all (fun r => r.state == 4) && (up && sameWants (rs.map Run.want) ws)) = settledRuns up rs ws := by
  unfold sameWants settledRuns
  rw [List.length_map]
  by_cases h : rs.length = ws.length
  · rw [← runsAre_same rs ws h]
    cases up <;> simp [h]
  · cases up <;> simp [h]

def head69m (w : Wld) (mm : Md) (i : Nat) : St := hd [(1, .ptr 0 0 0), (3, .int .i64 i)] [.box (w.c .bor mm)] 0
def wantV2 (acc : Option (List Want)) : AV := match acc with
  | none => .ref 2
  | some ws => .sl .bor 7 (ws.map Want.c)
def wantH2 (acc : Option (List Want)) : List AO := match acc with
  | none => [.arr 7 []]
  | some _ => []
def haveV (acc : Option (List Want)) : AV := match acc with
  | none => .ref 3
  | some _ => .ref 2
def head69p (w : Wld) (mm : Md) (i : Nat) (m : Mate) (j : Nat) (acc : Option (List Want)) : St := hd [(1, .ptr 0 0 0), (3, .int .i64 i), (4, .ptr 1 0 0), (5, wantV2 acc), (6, .int .i64 j)] (.box (w.c .bor mm) :: .box (m.c .bor) :: wantH2 acc) 0
def head69r (w : Wld) (mm : Md) (i : Nat) (m : Mate) (j : Nat) (acc : Option (List Want)) (hv : List Want) : St := hd [(1, .ptr 0 0 0), (3, .int .i64 i), (4, .ptr 1 0 0), (5, wantV2 acc), (7, haveV acc), (8, .int .i64 j)] (.box (w.c .bor mm) :: .box (m.c .bor) :: (wantH2 acc ++ [.arr 7 (hv.map Want.c)])) 0

end Go.Proofs.YthncjlbkncmekaaDoor

namespace Go.Proofs.YthncjlbkncmekaaDoor
open Go
set_option linter.unusedSimpArgs false
set_option maxRecDepth 100000

def Run.zero : Run := ⟨⟨⟨#[]⟩, 0, ⟨#[]⟩, 0, 0, 0, 0⟩, 0, 0, 0, 0⟩
def beginR (r : Run) (clock : Int) : Run := if leased r clock then { r with state := 3, left := r.want.start } else { r with state := 2, left := 0 }
def fallsUp (n : Int) : Int := if n < 1000 then n + 1 else n
def leftOf (f : Int) : Int := if 4 ≤ f then 16 else if f ≤ 0 then 1 else if f = 1 then 2 else if f = 2 then 4 else 8
def dies (r : Run) : Run := { r with falls := fallsUp r.falls, state := 5, left := leftOf (fallsUp r.falls) }
def mateLive (r : Run) (w : Want) (wanted : Bool) (clock : Int) : Option Run :=
  if (!wanted || !eqWant w r.want) && r.state != 6 then (if alive r then some { r with state := 6, left := r.want.grace } else none)
  else if r.state ≠ 2 ∧ 1 < r.left then some { r with left := r.left - 1 }
  else if r.state = 3 then some { r with state := 4, left := r.want.dies }
  else if r.state = 4 then (if r.left = 1 then some (dies r) else some r)
  else if r.state = 6 then none
  else if r.state = 1 ∨ r.state = 2 ∨ r.state = 5 then some (beginR r clock)
  else some r

def liveRes (r : Run) (w : Want) (wanted : Bool) (clock : Int) : AV := .tup [.agg ((mateLive r w wanted clock).getD .zero).c, .bool (mateLive r w wanted clock).isSome]

def head93 (r : Run) (f : Int) (i : Nat) : St := hd [(1, .ptr 0 0 0), (2, .ptr 1 0 0), (3, .int .i64 i)] [.box ({ r with state := 5, left := 2 ^ i, falls := f } : Run).c, .box Run.zero.c] 0

theorem leftOf_stop {f : Int} {i : Nat} (hi : i ≤ 4) (h1 : (i : Int) ≤ f ∨ i = 0) (h2 : ¬ ((i : Int) < f) ∨ i = 4) : (2 : Int) ^ i = leftOf f := by
  unfold leftOf
  rcases i with _ | _ | _ | _ | _ | i
  · have : f ≤ 0 := by omega
    rw [if_neg (by omega), if_pos this]; rfl
  · have : f = 1 := by omega
    subst this; rfl
  · have : f = 2 := by omega
    subst this; rfl
  · have : f = 3 := by omega
    subst this; rfl
  · rw [if_pos (by omega)]; rfl
  · omega

theorem shlLeft {f : Int} (h : f < 4) : IntKind.i64.wrap (2 ^ min (if f < 0 then (0 : Int) else f).toNat IntKind.i64.bits) = leftOf f := by
  unfold leftOf
  rw [if_neg (show ¬ 4 ≤ f by omega)]
  by_cases h0 : f ≤ 0
  · rw [if_pos (show f ≤ 0 from h0)]
    have : (if f < 0 then (0 : Int) else f) = 0 := by split <;> omega
    rw [this]; rfl
  rw [if_neg (show ¬ f ≤ 0 from h0), if_neg (show ¬ f < 0 by omega)]
  by_cases h1 : f = 1
  · subst h1; rfl
  by_cases h2 : f = 2
  · subst h2; rfl
  have h3 : f = 3 := by omega
  subst h3; rfl

end Go.Proofs.YthncjlbkncmekaaDoor

namespace Go.Proofs.YthncjlbkncmekaaDoor
open Go
set_option linter.unusedSimpArgs false
set_option maxRecDepth 100000

/-- One of some. -/
def selT (l : List T) (i : Int) : T := l.getD i.toNat ⟨#[]⟩
def selI (l : List Int) (i : Int) : Int := l.getD i.toNat 0

theorem toNat_cases {i : Int} {n : Nat} (h0 : 0 ≤ i) (h : i < n) : ∃ k : Nat, i = k ∧ k < n := ⟨i.toNat, by omega, by omega⟩

@[simp] theorem selT2 (a b : T) {i : Int} (h : i.toNat < [[AV.str a], [.str b]].length) : [[AV.str a], [.str b]][i.toNat]'h = [.str (selT [a, b] i)] := by
  unfold selT
  generalize i.toNat = k at h ⊢
  rcases k with _ | _ | k <;> first | rfl | (simp at h; omega)
@[simp] theorem selI2 (a b : Int) {i : Int} (h : i.toNat < [[AV.int .i64 a], [.int .i64 b]].length) : [[AV.int .i64 a], [.int .i64 b]][i.toNat]'h = [.int .i64 (selI [a, b] i)] := by
  unfold selI
  generalize i.toNat = k at h ⊢
  rcases k with _ | _ | k <;> first | rfl | (simp at h; omega)
@[simp] theorem selT3 (a b c : T) {i : Int} (h : i.toNat < [[AV.str a], [.str b], [.str c]].length) : [[AV.str a], [.str b], [.str c]][i.toNat]'h = [.str (selT [a, b, c] i)] := by
  unfold selT
  generalize i.toNat = k at h ⊢
  rcases k with _ | _ | _ | k <;> first | rfl | (simp at h; omega)
@[simp] theorem selI3 (a b c : Int) {i : Int} (h : i.toNat < [[AV.int .i64 a], [.int .i64 b], [.int .i64 c]].length) : [[AV.int .i64 a], [.int .i64 b], [.int .i64 c]][i.toNat]'h = [.int .i64 (selI [a, b, c] i)] := by
  unfold selI
  generalize i.toNat = k at h ⊢
  rcases k with _ | _ | _ | k <;> first | rfl | (simp at h; omega)
@[simp] theorem selT4 (a b c d : T) {i : Int} (h : i.toNat < [[AV.str a], [.str b], [.str c], [.str d]].length) : [[AV.str a], [.str b], [.str c], [.str d]][i.toNat]'h = [.str (selT [a, b, c, d] i)] := by
  unfold selT
  generalize i.toNat = k at h ⊢
  rcases k with _ | _ | _ | _ | k <;> first | rfl | (simp at h; omega)
@[simp] theorem selI4 (a b c d : Int) {i : Int} (h : i.toNat < [[AV.int .i64 a], [.int .i64 b], [.int .i64 c], [.int .i64 d]].length) : [[AV.int .i64 a], [.int .i64 b], [.int .i64 c], [.int .i64 d]][i.toNat]'h = [.int .i64 (selI [a, b, c, d] i)] := by
  unfold selI
  generalize i.toNat = k at h ⊢
  rcases k with _ | _ | _ | _ | k <;> first | rfl | (simp at h; omega)
@[simp] theorem selT5 (a b c d e : T) {i : Int} (h : i.toNat < [[AV.str a], [.str b], [.str c], [.str d], [.str e]].length) : [[AV.str a], [.str b], [.str c], [.str d], [.str e]][i.toNat]'h = [.str (selT [a, b, c, d, e] i)] := by
  unfold selT
  generalize i.toNat = k at h ⊢
  rcases k with _ | _ | _ | _ | _ | k <;> first | rfl | (simp at h; omega)
@[simp] theorem selI5 (a b c d e : Int) {i : Int} (h : i.toNat < [[AV.int .i64 a], [.int .i64 b], [.int .i64 c], [.int .i64 d], [.int .i64 e]].length) : [[AV.int .i64 a], [.int .i64 b], [.int .i64 c], [.int .i64 d], [.int .i64 e]][i.toNat]'h = [.int .i64 (selI [a, b, c, d, e] i)] := by
  unfold selI
  generalize i.toNat = k at h ⊢
  rcases k with _ | _ | _ | _ | _ | k <;> first | rfl | (simp at h; omega)
@[simp] theorem selT6 (a b c d e f : T) {i : Int} (h : i.toNat < [[AV.str a], [.str b], [.str c], [.str d], [.str e], [.str f]].length) : [[AV.str a], [.str b], [.str c], [.str d], [.str e], [.str f]][i.toNat]'h = [.str (selT [a, b, c, d, e, f] i)] := by
  unfold selT
  generalize i.toNat = k at h ⊢
  rcases k with _ | _ | _ | _ | _ | _ | k <;> first | rfl | (simp at h; omega)
@[simp] theorem selI6 (a b c d e f : Int) {i : Int} (h : i.toNat < [[AV.int .i64 a], [.int .i64 b], [.int .i64 c], [.int .i64 d], [.int .i64 e], [.int .i64 f]].length) : [[AV.int .i64 a], [.int .i64 b], [.int .i64 c], [.int .i64 d], [.int .i64 e], [.int .i64 f]][i.toNat]'h = [.int .i64 (selI [a, b, c, d, e, f] i)] := by
  unfold selI
  generalize i.toNat = k at h ⊢
  rcases k with _ | _ | _ | _ | _ | _ | k <;> first | rfl | (simp at h; omega)
@[simp] theorem selT7 (a b c d e f g : T) {i : Int} (h : i.toNat < [[AV.str a], [.str b], [.str c], [.str d], [.str e], [.str f], [.str g]].length) : [[AV.str a], [.str b], [.str c], [.str d], [.str e], [.str f], [.str g]][i.toNat]'h = [.str (selT [a, b, c, d, e, f, g] i)] := by
  unfold selT
  generalize i.toNat = k at h ⊢
  rcases k with _ | _ | _ | _ | _ | _ | _ | k <;> first | rfl | (simp at h; omega)
@[simp] theorem selI7 (a b c d e f g : Int) {i : Int} (h : i.toNat < [[AV.int .i64 a], [.int .i64 b], [.int .i64 c], [.int .i64 d], [.int .i64 e], [.int .i64 f], [.int .i64 g]].length) : [[AV.int .i64 a], [.int .i64 b], [.int .i64 c], [.int .i64 d], [.int .i64 e], [.int .i64 f], [.int .i64 g]][i.toNat]'h = [.int .i64 (selI [a, b, c, d, e, f, g] i)] := by
  unfold selI
  generalize i.toNat = k at h ⊢
  rcases k with _ | _ | _ | _ | _ | _ | _ | k <;> first | rfl | (simp at h; omega)
@[simp] theorem selT8 (a b c d e f g u : T) {i : Int} (h : i.toNat < [[AV.str a], [.str b], [.str c], [.str d], [.str e], [.str f], [.str g], [.str u]].length) : [[AV.str a], [.str b], [.str c], [.str d], [.str e], [.str f], [.str g], [.str u]][i.toNat]'h = [.str (selT [a, b, c, d, e, f, g, u] i)] := by
  unfold selT
  generalize i.toNat = k at h ⊢
  rcases k with _ | _ | _ | _ | _ | _ | _ | _ | k <;> first | rfl | (simp at h; omega)
@[simp] theorem selI8 (a b c d e f g u : Int) {i : Int} (h : i.toNat < [[AV.int .i64 a], [.int .i64 b], [.int .i64 c], [.int .i64 d], [.int .i64 e], [.int .i64 f], [.int .i64 g], [.int .i64 u]].length) : [[AV.int .i64 a], [.int .i64 b], [.int .i64 c], [.int .i64 d], [.int .i64 e], [.int .i64 f], [.int .i64 g], [.int .i64 u]][i.toNat]'h = [.int .i64 (selI [a, b, c, d, e, f, g, u] i)] := by
  unfold selI
  generalize i.toNat = k at h ⊢
  rcases k with _ | _ | _ | _ | _ | _ | _ | _ | k <;> first | rfl | (simp at h; omega)

noncomputable def drawWant (bs : List Int) (p : Int) (copy : T) : Want :=
  ⟨copy, 1 + pickV bs p 3, selT [⟨#[]⟩, ⟨#[118, 111, 108]⟩, ⟨#[105, 112]⟩, ⟨#[118, 111, 108, 50]⟩] (pickV bs (p + 1) 4), pickV bs (p + 2) 4, pickV bs (p + 3) 3, selI [0, 0, 0, 1, 3, 8] (pickV bs (p + 4) 6), pickV bs (p + 5) 4⟩

/-! ### Drawn values are of moderate size -/
def tame (n : Int) : Prop := -100000000 ≤ n ∧ n ≤ 100000000
structure Want.tame (w : Want) : Prop where
  copy : w.copy.size ≤ 1000
  version : YthncjlbkncmekaaDoor.tame w.version
  hold : w.hold.size ≤ 1000
  pull : YthncjlbkncmekaaDoor.tame w.pull
  start : YthncjlbkncmekaaDoor.tame w.start
  dies : YthncjlbkncmekaaDoor.tame w.dies
  grace : YthncjlbkncmekaaDoor.tame w.grace
structure Run.tame (r : Run) : Prop where
  want : r.want.tame
  state : YthncjlbkncmekaaDoor.tame r.state
  left : YthncjlbkncmekaaDoor.tame r.left
  falls : YthncjlbkncmekaaDoor.tame r.falls
  til : YthncjlbkncmekaaDoor.tame r.til

theorem selT_le {l : List T} {n : Nat} (h : ∀ x ∈ l, x.size ≤ n) (i : Int) : (selT l i).size ≤ n := by
  unfold selT
  rw [List.getD_eq_getElem?_getD]
  cases e : l[i.toNat]? with
  | none => exact Nat.zero_le _
  | some x => exact h x (List.mem_of_getElem? e)
theorem selI_tame {l : List Int} (h : ∀ x ∈ l, tame x) (i : Int) : tame (selI l i) := by
  unfold selI
  rw [List.getD_eq_getElem?_getD]
  cases e : l[i.toNat]? with
  | none => exact ⟨by simp, by simp⟩
  | some x => exact h x (List.mem_of_getElem? e)
theorem pick_tame {x n : Int} (h0 : 0 ≤ x) (h : x < n) (hn : n ≤ 100000000) : tame x := ⟨by omega, by omega⟩

/-! ### A text many times -/
def headMany (s : T) (n : Int) (out : T) : St := hd [(0, .str s), (1, .int .i64 n), (5, .str out)] [] 0

def manyGo (n : Nat) (s out : T) : T := if _h : n = 0 then out else manyGo (n / 2) (s ++ s) (if n % 2 = 1 then out ++ s else out)
termination_by n
decreasing_by omega

theorem app_size (x y : T) : (x ++ y).size = x.size + y.size := ByteArray.size_append

theorem manyGo_size (n : Nat) (s out : T) : (manyGo n s out).size = out.size + s.size * n := by
  rw [manyGo]
  split
  · subst_vars; simp
  · rename_i h
    rw [manyGo_size (n / 2)]
    have e : n = 2 * (n / 2) + n % 2 := by omega
    have h2 : n % 2 < 2 := Nat.mod_lt _ (by omega)
    generalize n / 2 = q at *
    generalize n % 2 = r at *
    subst e
    rcases r with _ | _ | r
    · simp [app_size]
      rw [← Nat.mul_assoc, Nat.mul_two]
    · simp [app_size]
      rw [Nat.mul_add, ← Nat.mul_assoc, Nat.mul_two]
      omega
    · omega
termination_by n
decreasing_by omega

theorem Code.take {bs : List Int} (h : ∀ b ∈ bs, 0 ≤ b ∧ b ≤ 255) : Code (bs.take 2000) := ⟨by rw [List.length_take]; omega, fun b hb => h b (List.mem_of_mem_take hb)⟩

def Want.zero : Want := ⟨⟨#[]⟩, 0, ⟨#[]⟩, 0, 0, 0, 0⟩
theorem Want.zero_tame : Want.zero.tame := ⟨Nat.zero_le _, ⟨by decide, by decide⟩, Nat.zero_le _, ⟨by decide, by decide⟩, ⟨by decide, by decide⟩, ⟨by decide, by decide⟩, ⟨by decide, by decide⟩⟩

end Go.Proofs.YthncjlbkncmekaaDoor

namespace Go.Proofs.YthncjlbkncmekaaDoor
open Go

def Ends {ρ : Type} (o : Option ρ) (Q : ρ → Prop) : Prop := ∃ r, o = some r ∧ Q r
@[simp] theorem Ends_some {ρ : Type} (r : ρ) (Q : ρ → Prop) : Ends (some r) Q ↔ Q r := by
  unfold Ends
  constructor
  · rintro ⟨s, h, k⟩; cases h; exact k
  · exact fun k => ⟨r, rfl, k⟩
theorem Ends.mono {ρ : Type} {o : Option ρ} {Q Q' : ρ → Prop} (h : Ends o Q) (k : ∀ r, Q r → Q' r) : Ends o Q' := by
  obtain ⟨r, h1, h2⟩ := h
  exact ⟨r, h1, k r h2⟩

theorem F_ends {k : Nat} {c : CFn} {args : List AV} {objs : List AO} {Q : AV × List (Option AO) → Prop} (hc : P.fn k = some c) (hl : Nat.ble args.length c.nt = true)
    (h : Ends (fin c.res objs.length (X F [.code c.body] (.normal, ⟨startSlots args 0, startHeap objs 0, 0, objs.length, objs.length⟩))) Q) : Ends (F k args objs) Q := by
  obtain ⟨r, h1, h2⟩ := h
  exact ⟨r, F_run hc hl h1, h2⟩

open Classical in
theorem loop_end {cl : Callee} {ρ σ : Type} {K : Option (AExit × St) → Option ρ} {keep : List Nat} {b : CCode} {fs : List Fr} {Q : ρ → Prop} (H : σ → St) (Inv : σ → Prop) (μ : σ → Nat)
    (step : ∀ x Y, Inv x → (∀ y s', Inv y → μ y < μ x → s'.norm keep = H y → Ends (K (Y s')) Q) → Ends (K (X cl (.code b :: .back Y :: fs) (.normal, H x))) Q)
    (x : σ) {s : St} (hs : s.norm keep = H x) (hi : Inv x) (hm : μ x < big) : Ends (K (X cl (.code (.loop keep b) :: fs) (.normal, s))) Q := by
  have h := loop_by (cl := cl) (K := fun o => if Ends (K o) Q then some () else none) (keep := keep) (b := b) (fs := fs) H Inv μ (fun _ => ()) (fun x Y hx hY => by
    have := step x Y hx (fun y s' h1 h2 h3 => by
      have h4 := hY y s' h1 h2 h3
      split at h4
      · assumption
      · cases h4)
    exact if_pos this) x hs hi hm
  split at h
  · assumption
  · cases h
end Go.Proofs.YthncjlbkncmekaaDoor

namespace Go.Proofs.YthncjlbkncmekaaDoor
open Go
set_option linter.unusedSimpArgs false
set_option maxRecDepth 100000

def digit (d : Nat) : T := ⟨#[48 + UInt8.ofNat d]⟩
def dec (n : Nat) : T := if _h : n < 10 then digit n else dec (n / 10) ++ digit (n % 10)
termination_by n
decreasing_by omega

theorem u8w {d : Nat} (h : d < 10) : IntKind.u8.wrap (IntKind.i64.wrap (48 + (d : Int))) = 48 + (d : Int) := by
  rw [i64w (by omega) (by omega)]
  simp [IntKind.wrap, IntKind.signed, IntKind.bits]
  omega

theorem dec_size : ∀ (j n : Nat), n < 10 ^ (j + 1) → (dec n).size ≤ j + 1
  | 0, n, h => by
    rw [dec, dif_pos (by omega)]
    exact Nat.le_refl _
  | j + 1, n, h => by
    rw [dec]
    split
    · show 1 ≤ _; omega
    · rw [app_size]
      have := dec_size j (n / 10) (Nat.div_lt_of_lt_mul (by rw [Nat.pow_succ] at h; omega))
      have e : (digit (n % 10)).size = 1 := rfl
      omega

theorem law140 (n : Nat) (hn : n < 1000000000000000000) : F 140 [.int .i64 n] [] = some (.str (dec n), []) := by
  induction n using Nat.strongRecOn with
  | ind n ih =>
    refine F_run fn140 rfl ?_
    rw [dec]
    by_cases h : n < 10
    · have hI : (n : Int) < 10 := by omega
      have hu := u8w h
      have ht : (48 + (n : Int)).toNat = 48 + n := by omega
      simp [c140, h, hI, toBytes, hu, digit, ht]
    · have hI : ¬ (n : Int) < 10 := by omega
      have w := ih (n / 10) (by omega) (by omega)
      have hs := dec_size 18 (n / 10) (by omega)
      have hd := Nat.mod_lt n (show 0 < 10 by omega)
      obtain ⟨q, hq⟩ : ∃ q, q = n / 10 := ⟨_, rfl⟩
      obtain ⟨d, hdd⟩ : ∃ d, d = n % 10 := ⟨_, rfl⟩
      have hm : Int.tmod (n : Int) 10 = (d : Int) := by rw [Int.tmod_eq_emod_of_nonneg (by omega)]; omega
      have hm2 : (n : Int) % 10 = (d : Int) := by omega
      have hq2 : (n : Int) / 10 = (q : Int) := by omega
      have hq3 : IntKind.i64.wrap (q : Int) = (q : Int) := i64w (by omega) (by omega)
      rw [← hq] at w hs ⊢
      rw [← hdd] at hd ⊢
      have hu := u8w hd
      have ht : (48 + (d : Int)).toNat = 48 + d := by omega
      have hs2 : (dec q).size + (⟨#[48 + UInt8.ofNat d]⟩ : T).size ≤ 9223372036854775807 := by
        have : (⟨#[48 + UInt8.ofNat d]⟩ : T).size = 1 := rfl
        omega
      simp [c140, h, hI, toBytes, hm, hm2, hq2, hq3, hu, digit, ht, w, hs2]

/-- The name of the i-th copy. -/
theorem cName_size {i : Nat} (h : i < 1000) : ((⟨#[99]⟩ : T) ++ dec i).size ≤ 1000 := by
  rw [app_size]
  have := dec_size 3 i (by omega)
  have e : (⟨#[99]⟩ : T).size = 1 := rfl
  omega

/-! ### Lists of wants and of runs -/
def head145 (bs : List Int) (p : Int) (ws : List Want) (i : Nat) : St := hd [(0, .ptr 0 0 0), (3, .ref 1), (4, .int .i64 i)] [rdBox bs p, .arr 7 (ws.map Want.c)] 1

def Drew (bs : List Int) (p n : Int) (v : AV → Prop) (r : AV × List (Option AO)) : Prop := ∃ x p', r = (x, [some (rdBox bs p')]) ∧ p ≤ p' ∧ p' ≤ p + n ∧ v x

def head162 (bs : List Int) (p clock : Int) (ok : Bool) (rs : List Run) (i : Nat) : St := hd [(0, .ptr 0 0 0), (1, .int .i64 clock), (2, .bool ok), (7, .ref 1), (8, .int .i64 i)] [rdBox bs p, .arr 11 (rs.map Run.c)] 1

end Go.Proofs.YthncjlbkncmekaaDoor

namespace Go.Proofs.YthncjlbkncmekaaDoor
open Go
set_option linter.unusedSimpArgs false

theorem textsOf_map : ∀ xs : List T, textsOf (xs.map fun x => [.str x]) = some xs
  | [] => rfl
  | x :: xs => by simp [textsOf, textsOf_map xs]
theorem law230 (xs : List T) (sep : T) (h : xs.length ≤ 140737488355328) (h2 : (joinT xs sep).size ≤ 140737488355328) : F 230 [.sl .bor 1 (xs.map fun x => [.str x]), .str sep] [] = some (.str (joinT xs sep), []) :=
  lim_prim rfl (by rw [show P.prim = prim from rfl]; simp [prim, primGo, textsOf_map, h, h2])
theorem law231 (n : Int) (h : -9223372036854775808 ≤ n) (h2 : n ≤ 9223372036854775807) : F 231 [.int .i64 n] [] = some (.str (itoaT n), []) :=
  lim_prim rfl (by rw [show P.prim = prim from rfl]; simp [prim, primGo, h, h2])
/-! ### Sizes -/
theorem lit_size (a : Array UInt8) : (⟨a⟩ : T).size = a.size := rfl
theorem le_ok {a : Nat} (h : a ≤ 9223372036854775807) : (a ≤ 9223372036854775807) = True := by simp [h]
theorem text_ext {a b : T} (h : a.data.toList = b.data.toList) : a = b := by
  cases a; cases b; congr; exact Array.ext' h
theorem text_append (a b : T) : (a ++ b).data.toList = a.data.toList ++ b.data.toList := by
  simp
end Go.Proofs.YthncjlbkncmekaaDoor

namespace Go.Proofs.YthncjlbkncmekaaDoor
open Go
set_option linter.unusedSimpArgs false
set_option maxRecDepth 100000

def starOr (h : T) : T := if sEq h ⟨#[]⟩ then ⟨#[42]⟩ else h
def formWant (w : Want) : T := (⟨#[119, 97, 110, 116, 32]⟩ : T) ++ w.copy ++ (⟨#[32]⟩ : T) ++ dec w.version.toNat ++ (⟨#[32]⟩ : T) ++ starOr w.hold ++ (⟨#[32]⟩ : T) ++ dec w.pull.toNat ++ (⟨#[32]⟩ : T) ++ dec w.start.toNat ++ (⟨#[32]⟩ : T) ++ dec w.dies.toNat ++ (⟨#[32]⟩ : T) ++ dec w.grace.toNat ++ (⟨#[10]⟩ : T)

theorem law140' (n : Int) (h0 : 0 ≤ n) (hn : n ≤ 1000000) : F 140 [.int .i64 n] [] = some (.str (dec n.toNat), []) ∧ (dec n.toNat).size ≤ 7 := by
  have h := law140 n.toNat (by omega)
  rw [Int.toNat_of_nonneg h0] at h
  exact ⟨h, dec_size 6 n.toNat (by omega)⟩

theorem starOr_size {h : T} (k : h.size ≤ 20) : (starOr h).size ≤ 20 := by
  unfold starOr
  split
  · show (1 : Nat) ≤ 20; omega
  · exact k

/-- A want whose parts are in their bounds. -/
structure Want.fits (w : Want) : Prop where
  copy : w.copy.size ≤ 20
  hold : w.hold.size ≤ 20
  version : 0 ≤ w.version ∧ w.version ≤ 1000000
  pull : 0 ≤ w.pull ∧ w.pull ≤ 1000000
  start : 0 ≤ w.start ∧ w.start ≤ 1000000
  dies : 0 ≤ w.dies ∧ w.dies ≤ 1000000
  grace : 0 ≤ w.grace ∧ w.grace ≤ 1000000

theorem law240 (w : Want) (hw : w.fits) : F 240 [.agg w.c] [] = some (.str (formWant w), []) := by
  refine F_run fn240 rfl ?_
  obtain ⟨h1, h2, n1, n2, n3, n4, n5⟩ := hw
  obtain ⟨a1, b1⟩ := law140' _ n1.1 n1.2
  obtain ⟨a2, b2⟩ := law140' _ n2.1 n2.2
  obtain ⟨a3, b3⟩ := law140' _ n3.1 n3.2
  obtain ⟨a4, b4⟩ := law140' _ n4.1 n4.2
  obtain ⟨a5, b5⟩ := law140' _ n5.1 n5.2
  have hh := starOr_size h2
  have z1 : (⟨#[119, 97, 110, 116, 32]⟩ : T).size = 5 := rfl
  have z2 : (⟨#[32]⟩ : T).size = 1 := rfl
  have z3 : (⟨#[10]⟩ : T).size = 1 := rfl
  unfold formWant
  cases q : sEq w.hold ⟨#[]⟩
  · have e : starOr w.hold = w.hold := by simp [starOr, q]
    rw [e] at hh ⊢
    have s2 : (⟨#[119, 97, 110, 116, 32]⟩ : T).size + (w.copy).size ≤ 9223372036854775807 := by omega
    have s3 : (⟨#[119, 97, 110, 116, 32]⟩ : T).size + (w.copy).size + (⟨#[32]⟩ : T).size ≤ 9223372036854775807 := by omega
    have s4 : (⟨#[119, 97, 110, 116, 32]⟩ : T).size + (w.copy).size + (⟨#[32]⟩ : T).size + (dec w.version.toNat).size ≤ 9223372036854775807 := by omega
    have s5 : (⟨#[119, 97, 110, 116, 32]⟩ : T).size + (w.copy).size + (⟨#[32]⟩ : T).size + (dec w.version.toNat).size + (⟨#[32]⟩ : T).size ≤ 9223372036854775807 := by omega
    have s6 : (⟨#[119, 97, 110, 116, 32]⟩ : T).size + (w.copy).size + (⟨#[32]⟩ : T).size + (dec w.version.toNat).size + (⟨#[32]⟩ : T).size + (w.hold).size ≤ 9223372036854775807 := by omega
    have s7 : (⟨#[119, 97, 110, 116, 32]⟩ : T).size + (w.copy).size + (⟨#[32]⟩ : T).size + (dec w.version.toNat).size + (⟨#[32]⟩ : T).size + (w.hold).size + (⟨#[32]⟩ : T).size ≤ 9223372036854775807 := by omega
    have s8 : (⟨#[119, 97, 110, 116, 32]⟩ : T).size + (w.copy).size + (⟨#[32]⟩ : T).size + (dec w.version.toNat).size + (⟨#[32]⟩ : T).size + (w.hold).size + (⟨#[32]⟩ : T).size + (dec w.pull.toNat).size ≤ 9223372036854775807 := by omega
    have s9 : (⟨#[119, 97, 110, 116, 32]⟩ : T).size + (w.copy).size + (⟨#[32]⟩ : T).size + (dec w.version.toNat).size + (⟨#[32]⟩ : T).size + (w.hold).size + (⟨#[32]⟩ : T).size + (dec w.pull.toNat).size + (⟨#[32]⟩ : T).size ≤ 9223372036854775807 := by omega
    have s10 : (⟨#[119, 97, 110, 116, 32]⟩ : T).size + (w.copy).size + (⟨#[32]⟩ : T).size + (dec w.version.toNat).size + (⟨#[32]⟩ : T).size + (w.hold).size + (⟨#[32]⟩ : T).size + (dec w.pull.toNat).size + (⟨#[32]⟩ : T).size + (dec w.start.toNat).size ≤ 9223372036854775807 := by omega
    have s11 : (⟨#[119, 97, 110, 116, 32]⟩ : T).size + (w.copy).size + (⟨#[32]⟩ : T).size + (dec w.version.toNat).size + (⟨#[32]⟩ : T).size + (w.hold).size + (⟨#[32]⟩ : T).size + (dec w.pull.toNat).size + (⟨#[32]⟩ : T).size + (dec w.start.toNat).size + (⟨#[32]⟩ : T).size ≤ 9223372036854775807 := by omega
    have s12 : (⟨#[119, 97, 110, 116, 32]⟩ : T).size + (w.copy).size + (⟨#[32]⟩ : T).size + (dec w.version.toNat).size + (⟨#[32]⟩ : T).size + (w.hold).size + (⟨#[32]⟩ : T).size + (dec w.pull.toNat).size + (⟨#[32]⟩ : T).size + (dec w.start.toNat).size + (⟨#[32]⟩ : T).size + (dec w.dies.toNat).size ≤ 9223372036854775807 := by omega
    have s13 : (⟨#[119, 97, 110, 116, 32]⟩ : T).size + (w.copy).size + (⟨#[32]⟩ : T).size + (dec w.version.toNat).size + (⟨#[32]⟩ : T).size + (w.hold).size + (⟨#[32]⟩ : T).size + (dec w.pull.toNat).size + (⟨#[32]⟩ : T).size + (dec w.start.toNat).size + (⟨#[32]⟩ : T).size + (dec w.dies.toNat).size + (⟨#[32]⟩ : T).size ≤ 9223372036854775807 := by omega
    have s14 : (⟨#[119, 97, 110, 116, 32]⟩ : T).size + (w.copy).size + (⟨#[32]⟩ : T).size + (dec w.version.toNat).size + (⟨#[32]⟩ : T).size + (w.hold).size + (⟨#[32]⟩ : T).size + (dec w.pull.toNat).size + (⟨#[32]⟩ : T).size + (dec w.start.toNat).size + (⟨#[32]⟩ : T).size + (dec w.dies.toNat).size + (⟨#[32]⟩ : T).size + (dec w.grace.toNat).size ≤ 9223372036854775807 := by omega
    have s15 : (⟨#[119, 97, 110, 116, 32]⟩ : T).size + (w.copy).size + (⟨#[32]⟩ : T).size + (dec w.version.toNat).size + (⟨#[32]⟩ : T).size + (w.hold).size + (⟨#[32]⟩ : T).size + (dec w.pull.toNat).size + (⟨#[32]⟩ : T).size + (dec w.start.toNat).size + (⟨#[32]⟩ : T).size + (dec w.dies.toNat).size + (⟨#[32]⟩ : T).size + (dec w.grace.toNat).size + (⟨#[10]⟩ : T).size ≤ 9223372036854775807 := by omega
    simp [c240, q, a1, a2, a3, a4, a5, s2, s3, s4, s5, s6, s7, s8, s9, s10, s11, s12, s13, s14, s15]
  · have e : starOr w.hold = ⟨#[42]⟩ := by simp [starOr, q]
    rw [e] at hh ⊢
    have s2 : (⟨#[119, 97, 110, 116, 32]⟩ : T).size + (w.copy).size ≤ 9223372036854775807 := by omega
    have s3 : (⟨#[119, 97, 110, 116, 32]⟩ : T).size + (w.copy).size + (⟨#[32]⟩ : T).size ≤ 9223372036854775807 := by omega
    have s4 : (⟨#[119, 97, 110, 116, 32]⟩ : T).size + (w.copy).size + (⟨#[32]⟩ : T).size + (dec w.version.toNat).size ≤ 9223372036854775807 := by omega
    have s5 : (⟨#[119, 97, 110, 116, 32]⟩ : T).size + (w.copy).size + (⟨#[32]⟩ : T).size + (dec w.version.toNat).size + (⟨#[32]⟩ : T).size ≤ 9223372036854775807 := by omega
    have s6 : (⟨#[119, 97, 110, 116, 32]⟩ : T).size + (w.copy).size + (⟨#[32]⟩ : T).size + (dec w.version.toNat).size + (⟨#[32]⟩ : T).size + (⟨#[42]⟩ : T).size ≤ 9223372036854775807 := by omega
    have s7 : (⟨#[119, 97, 110, 116, 32]⟩ : T).size + (w.copy).size + (⟨#[32]⟩ : T).size + (dec w.version.toNat).size + (⟨#[32]⟩ : T).size + (⟨#[42]⟩ : T).size + (⟨#[32]⟩ : T).size ≤ 9223372036854775807 := by omega
    have s8 : (⟨#[119, 97, 110, 116, 32]⟩ : T).size + (w.copy).size + (⟨#[32]⟩ : T).size + (dec w.version.toNat).size + (⟨#[32]⟩ : T).size + (⟨#[42]⟩ : T).size + (⟨#[32]⟩ : T).size + (dec w.pull.toNat).size ≤ 9223372036854775807 := by omega
    have s9 : (⟨#[119, 97, 110, 116, 32]⟩ : T).size + (w.copy).size + (⟨#[32]⟩ : T).size + (dec w.version.toNat).size + (⟨#[32]⟩ : T).size + (⟨#[42]⟩ : T).size + (⟨#[32]⟩ : T).size + (dec w.pull.toNat).size + (⟨#[32]⟩ : T).size ≤ 9223372036854775807 := by omega
    have s10 : (⟨#[119, 97, 110, 116, 32]⟩ : T).size + (w.copy).size + (⟨#[32]⟩ : T).size + (dec w.version.toNat).size + (⟨#[32]⟩ : T).size + (⟨#[42]⟩ : T).size + (⟨#[32]⟩ : T).size + (dec w.pull.toNat).size + (⟨#[32]⟩ : T).size + (dec w.start.toNat).size ≤ 9223372036854775807 := by omega
    have s11 : (⟨#[119, 97, 110, 116, 32]⟩ : T).size + (w.copy).size + (⟨#[32]⟩ : T).size + (dec w.version.toNat).size + (⟨#[32]⟩ : T).size + (⟨#[42]⟩ : T).size + (⟨#[32]⟩ : T).size + (dec w.pull.toNat).size + (⟨#[32]⟩ : T).size + (dec w.start.toNat).size + (⟨#[32]⟩ : T).size ≤ 9223372036854775807 := by omega
    have s12 : (⟨#[119, 97, 110, 116, 32]⟩ : T).size + (w.copy).size + (⟨#[32]⟩ : T).size + (dec w.version.toNat).size + (⟨#[32]⟩ : T).size + (⟨#[42]⟩ : T).size + (⟨#[32]⟩ : T).size + (dec w.pull.toNat).size + (⟨#[32]⟩ : T).size + (dec w.start.toNat).size + (⟨#[32]⟩ : T).size + (dec w.dies.toNat).size ≤ 9223372036854775807 := by omega
    have s13 : (⟨#[119, 97, 110, 116, 32]⟩ : T).size + (w.copy).size + (⟨#[32]⟩ : T).size + (dec w.version.toNat).size + (⟨#[32]⟩ : T).size + (⟨#[42]⟩ : T).size + (⟨#[32]⟩ : T).size + (dec w.pull.toNat).size + (⟨#[32]⟩ : T).size + (dec w.start.toNat).size + (⟨#[32]⟩ : T).size + (dec w.dies.toNat).size + (⟨#[32]⟩ : T).size ≤ 9223372036854775807 := by omega
    have s14 : (⟨#[119, 97, 110, 116, 32]⟩ : T).size + (w.copy).size + (⟨#[32]⟩ : T).size + (dec w.version.toNat).size + (⟨#[32]⟩ : T).size + (⟨#[42]⟩ : T).size + (⟨#[32]⟩ : T).size + (dec w.pull.toNat).size + (⟨#[32]⟩ : T).size + (dec w.start.toNat).size + (⟨#[32]⟩ : T).size + (dec w.dies.toNat).size + (⟨#[32]⟩ : T).size + (dec w.grace.toNat).size ≤ 9223372036854775807 := by omega
    have s15 : (⟨#[119, 97, 110, 116, 32]⟩ : T).size + (w.copy).size + (⟨#[32]⟩ : T).size + (dec w.version.toNat).size + (⟨#[32]⟩ : T).size + (⟨#[42]⟩ : T).size + (⟨#[32]⟩ : T).size + (dec w.pull.toNat).size + (⟨#[32]⟩ : T).size + (dec w.start.toNat).size + (⟨#[32]⟩ : T).size + (dec w.dies.toNat).size + (⟨#[32]⟩ : T).size + (dec w.grace.toNat).size + (⟨#[10]⟩ : T).size ≤ 9223372036854775807 := by omega
    simp [c240, q, a1, a2, a3, a4, a5, s2, s3, s4, s5, s6, s7, s8, s9, s10, s11, s12, s13, s14, s15]
end Go.Proofs.YthncjlbkncmekaaDoor

namespace Go.Proofs.YthncjlbkncmekaaDoor
open Go
set_option linter.unusedSimpArgs false

/-- Ascending by a text. -/
def Asc {α : Type} (key : α → T) (xs : List α) : Prop := xs.Pairwise fun a b => sLt (key a) (key b) = true

def ascL {α : Type} (key : α → T) (pre : List α) (x : α) : Bool := match pre.getLast? with
  | none => true
  | some p => sLt (key p) (key x)

theorem asc_snoc {α : Type} (key : α → T) (pre : List α) (x : α) (h : Asc key pre) : ascL key pre x = true ↔ Asc key (pre ++ [x]) := by
  unfold Asc at *
  unfold ascL
  rw [List.pairwise_append]
  rcases List.eq_nil_or_concat pre with rfl | ⟨l, p, rfl⟩
  · simp
  · simp only [List.concat_eq_append, List.getLast?_append, List.getLast?_singleton, Option.some_or] at h ⊢
    constructor
    · intro hp
      refine ⟨h, List.pairwise_singleton _ _, fun a ha b hb => ?_⟩
      rw [List.mem_singleton.1 hb]
      rcases List.mem_append.1 ha with ha | ha
      · exact sLt_trans ((List.pairwise_append.1 h).2.2 a ha p (List.mem_singleton.2 rfl)) hp
      · rw [List.mem_singleton.1 ha]; exact hp
    · exact fun ⟨_, _, k⟩ => k p (List.mem_append_right _ (List.mem_singleton.2 rfl)) x (List.mem_singleton.2 rfl)

theorem ascR_eq (pre : List Run) (r : Run) : ascR pre r = ascL (fun x : Run => x.want.copy) pre r := by unfold ascR ascL; cases pre.getLast? <;> rfl
theorem ascA_eq (pre : List Ask) (r : Ask) : ascA pre r = ascL (fun x : Ask => x.hold) pre r := by unfold ascA ascL; cases pre.getLast? <;> rfl
theorem ascW_eq (pre : List Want) (r : Want) : ascW pre r = ascL (fun x : Want => x.copy) pre r := by unfold ascW ascL; cases pre.getLast? <;> rfl
theorem Asc.left {α : Type} {key : α → T} {a b : List α} (h : Asc key (a ++ b)) : Asc key a := (List.pairwise_append.1 h).1
theorem Asc.right {α : Type} {key : α → T} {a b : List α} (h : Asc key (a ++ b)) : Asc key b := (List.pairwise_append.1 h).2.1
theorem Asc.nil {α : Type} (key : α → T) : Asc key [] := List.Pairwise.nil

theorem runsGo_iff (c : Int) : ∀ (rs pre : List Run), Asc (·.want.copy) pre → (runsGo c pre rs = true ↔ (∀ r ∈ rs, runOk r c = true) ∧ Asc (·.want.copy) (pre ++ rs))
  | [], pre, h => by simp [runsGo, h]
  | r :: rs, pre, h => by
    have e := asc_snoc (fun x : Run => x.want.copy) pre r h
    rw [← ascR_eq] at e
    simp only [runsGo, Bool.and_eq_true]
    constructor
    · rintro ⟨h1, h2, h3⟩
      have h4 := e.1 h2
      obtain ⟨h5, h6⟩ := (runsGo_iff c rs (pre ++ [r]) h4).1 h3
      exact ⟨fun x hx => (List.mem_cons.1 hx).elim (fun q => q ▸ h1) (h5 x), by simpa using h6⟩
    · rintro ⟨h1, h2⟩
      have h3 : Asc (fun x : Run => x.want.copy) ((pre ++ [r]) ++ rs) := by simpa using h2
      exact ⟨h1 r List.mem_cons_self, e.2 h3.left, (runsGo_iff c rs (pre ++ [r]) h3.left).2 ⟨fun x hx => h1 x (List.mem_cons_of_mem _ hx), h3⟩⟩

theorem runsOk_iff (rs : List Run) (c : Int) : runsOk rs c = true ↔ rs.length ≤ 20 ∧ (∀ r ∈ rs, runOk r c = true) ∧ Asc (·.want.copy) rs := by
  simp only [runsOk, Bool.and_eq_true, decide_eq_true_eq]
  rw [runsGo_iff c rs [] (Asc.nil _)]
  rfl

theorem asksGo_iff (c : Int) : ∀ (l pre : List Ask), Asc (·.hold) pre → (asksGo c pre l = true ↔ (∀ r ∈ l, askOk c r = true) ∧ Asc (·.hold) (pre ++ l))
  | [], pre, h => by simp [asksGo, h]
  | r :: rs, pre, h => by
    have e := asc_snoc (fun x : Ask => x.hold) pre r h
    rw [← ascA_eq] at e
    simp only [asksGo, Bool.and_eq_true]
    constructor
    · rintro ⟨h1, h2, h3⟩
      have h4 := e.1 h2
      obtain ⟨h5, h6⟩ := (asksGo_iff c rs (pre ++ [r]) h4).1 h3
      exact ⟨fun x hx => (List.mem_cons.1 hx).elim (fun q => q ▸ h1) (h5 x), by simpa using h6⟩
    · rintro ⟨h1, h2⟩
      have h3 : Asc (fun x : Ask => x.hold) ((pre ++ [r]) ++ rs) := by simpa using h2
      exact ⟨h1 r List.mem_cons_self, e.2 h3.left, (asksGo_iff c rs (pre ++ [r]) h3.left).2 ⟨fun x hx => h1 x (List.mem_cons_of_mem _ hx), h3⟩⟩

theorem asksOk_iff (l : List Ask) (c : Int) : asksOk l c = true ↔ l.length ≤ 40 ∧ (∀ r ∈ l, askOk c r = true) ∧ Asc (·.hold) l := by
  simp only [asksOk, Bool.and_eq_true, decide_eq_true_eq]
  rw [asksGo_iff c l [] (Asc.nil _)]
  rfl

/-- No two have one hold. -/
def Apart (ws : List Want) : Prop := ws.Pairwise fun a b => sEq b.hold ⟨#[]⟩ = true ∨ sEq a.hold b.hold = false

theorem fresh_snoc (pre : List Want) (w : Want) (h : Apart pre) : freshW pre w = true ↔ Apart (pre ++ [w]) := by
  unfold Apart at *
  rw [List.pairwise_append]
  simp only [freshW, heldB, Bool.or_eq_true, Bool.not_eq_true', List.any_eq_false, Bool.not_eq_true]
  constructor
  · rintro (h1 | h1)
    · exact ⟨h, List.pairwise_singleton _ _, fun a _ b hb => by rw [List.mem_singleton.1 hb]; exact .inl h1⟩
    · exact ⟨h, List.pairwise_singleton _ _, fun a ha b hb => by rw [List.mem_singleton.1 hb]; exact .inr (h1 a ha)⟩
  · rintro ⟨_, _, k⟩
    by_cases e : sEq w.hold ⟨#[]⟩ = true
    · exact .inl e
    · exact .inr fun a ha => (k a ha w (List.mem_singleton.2 rfl)).resolve_left e

theorem wantsGo_iff : ∀ (l pre : List Want), Asc (·.copy) pre → Apart pre → (wantsGo pre l = true ↔ (∀ r ∈ l, wantOk r = true) ∧ Asc (·.copy) (pre ++ l) ∧ Apart (pre ++ l))
  | [], pre, h, k => by simp [wantsGo, h, k]
  | r :: rs, pre, h, k => by
    have e := asc_snoc (fun x : Want => x.copy) pre r h
    rw [← ascW_eq] at e
    have e2 := fresh_snoc pre r k
    simp only [wantsGo, Bool.and_eq_true]
    constructor
    · rintro ⟨h1, h2, h3, h7⟩
      have h4 := e.1 h2
      obtain ⟨h5, h6, h8⟩ := (wantsGo_iff rs (pre ++ [r]) h4 (e2.1 h3)).1 h7
      exact ⟨fun x hx => (List.mem_cons.1 hx).elim (fun q => q ▸ h1) (h5 x), by simpa using h6, by simpa using h8⟩
    · rintro ⟨h1, h2, h4⟩
      have h3 : Asc (fun x : Want => x.copy) ((pre ++ [r]) ++ rs) := by simpa using h2
      have h5 : Apart ((pre ++ [r]) ++ rs) := by simpa using h4
      have h6 : Apart (pre ++ [r]) := (List.pairwise_append.1 h5).1
      exact ⟨h1 r List.mem_cons_self, e.2 h3.left, e2.2 h6, (wantsGo_iff rs (pre ++ [r]) h3.left h6).2 ⟨fun x hx => h1 x (List.mem_cons_of_mem _ hx), h3, h5⟩⟩

theorem wantsOk_iff (ws : List Want) : wantsOk ws = true ↔ ws.length ≤ 10 ∧ (∀ w ∈ ws, wantOk w = true) ∧ Asc (·.copy) ws ∧ Apart ws := by
  simp only [wantsOk, Bool.and_eq_true, decide_eq_true_eq]
  rw [wantsGo_iff ws [] (Asc.nil _) List.Pairwise.nil]
  rfl

theorem isName_nil : isName ⟨#[]⟩ = false := by decide

theorem mateParts_iff (m : Mate) : mateParts m = true ↔ isName m.name = true ∧ inR m.clock 0 1000000 = true ∧ inR m.seen 0 1000000 = true ∧ wantsOk m.wants = true ∧ (m.known = true ∨ m.wants = []) ∧ runsOk m.runs m.clock = true ∧ asksOk m.asks m.clock = true ∧ asksOk m.gives m.clock = true := by
  simp only [mateParts, Bool.and_eq_true, Bool.or_eq_true, List.isEmpty_iff]

theorem mateValid_iff (m : Mate) : mateValid m = true ↔ mateParts m = true ∧ apartGo m.gives m.asks = true ∧ (m.up = true ∨ mateDown m = true) := by
  simp only [mateValid, Bool.and_eq_true, Bool.or_eq_true]

theorem asksOk_nil (c : Int) : asksOk [] c = true := by simp [asksOk, asksGo]
theorem wantsOk_nil : wantsOk [] = true := by simp [wantsOk, wantsGo]

theorem fallRun_ok {b : Bool} {r r' : Run} {c : Int} (h : runOk r c = true) (e : fallRun b r = some r') : runOk r' c = true ∧ r'.want = r.want ∧ (alive r' || !sEq r'.want.hold ⟨#[]⟩) = true ∧ alive r' = !b ∧ (b = false → r' = r ∧ alive r = true) := by
  unfold fallRun at e
  split at e
  case isFalse => cases e
  rename_i ha
  cases b
  · simp only [Bool.false_eq_true, if_false, Option.some.injEq] at e
    subst e
    exact ⟨h, rfl, by simp [ha], by simp [ha], fun _ => ⟨rfl, ha⟩⟩
  · simp only [if_true] at e
    split at e
    · cases e
    · rename_i hh
      simp only [Option.some.injEq] at e
      subst e
      have hh' : sEq r.want.hold ⟨#[]⟩ = false := by simpa using hh
      refine ⟨?_, rfl, by simp [hh'], by simp [alive, aliveS], fun h => by cases h⟩
      simp only [runOk, Bool.and_eq_true] at h ⊢
      obtain ⟨h1, h2, h3, h4, h5, h6, h7, h8⟩ := h
      exact ⟨h1, by simp [inR], by simp [inR], by simp, h5, h6, h7, by simp [alive, aliveS]⟩

theorem fall_valid {m : Mate} (b : Bool) (h : mateValid m = true) : mateValid (mateFall m b) = true := by
  obtain ⟨h1, h2, h3⟩ := (mateValid_iff m).1 h
  obtain ⟨p1, p2, p3, p4, p5, p6, p7, p8⟩ := (mateParts_iff m).1 h1
  obtain ⟨r1, r2, r3⟩ := (runsOk_iff _ _).1 p6
  unfold mateFall
  rw [if_pos h]
  refine (mateValid_iff _).2 ⟨(mateParts_iff _).2 ⟨p1, p2, by simp [Mate.zero, inR], wantsOk_nil, .inr rfl, (runsOk_iff _ _).2 ⟨?_, ?_, ?_⟩, asksOk_nil _, asksOk_nil _⟩, by simp [apartGo, Mate.zero], .inr ?_⟩
  · exact Nat.le_trans (List.length_filterMap_le _ _) r1
  · intro r hr
    obtain ⟨r0, k1, k2⟩ := List.mem_filterMap.1 hr
    exact (fallRun_ok (r2 r0 k1) k2).1
  · refine List.Pairwise.filterMap _ (fun a b' hab x hx y hy => ?_) r3
    · have hx' := hx
      have hy' := hy
      have e : ∀ {r r' : Run}, fallRun b r = some r' → r'.want = r.want := fun {r r'} e => by
        unfold fallRun at e
        split at e
        · split at e
          · split at e
            · cases e
            · rw [← Option.some.inj e]
          · rw [← Option.some.inj e]
        · cases e
      simp only at hab ⊢
      rw [e hx, e hy]; exact hab
  · simp only [mateDown, Mate.zero, Bool.not_false, List.isEmpty_nil, beq_self_eq_true, Bool.true_and, downRuns, List.all_eq_true]
    intro r hr
    obtain ⟨r0, k1, k2⟩ := List.mem_filterMap.1 hr
    exact (fallRun_ok (r2 r0 k1) k2).2.2.1

theorem rise_valid {m : Mate} (h : mateValid m = true) : mateValid (mateRise m) = true := by
  obtain ⟨h1, h2, h3⟩ := (mateValid_iff m).1 h
  unfold mateRise
  rw [if_pos h]
  refine (mateValid_iff _).2 ⟨h1, h2, ?_⟩
  simp only [Bool.or_eq_true]
  rcases h3 with h3 | h3
  · exact .inl (.inl h3)
  · exact .inr h3

theorem zero_invalid : mateValid .zero = false := by
  cases h : mateValid .zero with
  | false => rfl
  | true =>
    have := ((mateParts_iff _).1 ((mateValid_iff _).1 h).1).1
    simp [Mate.zero, isName_nil] at this
end Go.Proofs.YthncjlbkncmekaaDoor

namespace Go.Proofs.YthncjlbkncmekaaDoor
open Go
set_option linter.unusedSimpArgs false
set_option maxRecDepth 100000

/-- What is left of a size. -/
def off (l : Int) (n : Nat) : Int := if IntKind.i64.wrap (l - n) < 0 then -1 else IntKind.i64.wrap (l - n)
def offs (l : Int) : List Nat → Int
  | [] => l
  | n :: r => if off l n < 0 then -1 else offs (off l n) r

theorem off_neg {l : Int} {n : Nat} (h : IntKind.i64.wrap (l - n) < 0) : off l n = -1 := by rw [off, if_pos h]
theorem off_pos {l : Int} {n : Nat} (h : ¬ IntKind.i64.wrap (l - n) < 0) : off l n = IntKind.i64.wrap (l - n) := by rw [off, if_neg h]

def szWant (w : Want) (l : Int) : Int := offs l [w.copy.size, w.hold.size]
def szWantGo : List Want → Int → Int
  | [], l => l
  | w :: r, l => if szWant w l < 0 then -1 else szWantGo r (szWant w l)
def szWants (ws : List Want) (l : Int) : Int := if off l ws.length < 0 then -1 else szWantGo ws (off l ws.length)

theorem wrap_len {l : Int} {n : Nat} (h : ¬ IntKind.i64.wrap (l - n) < 0) (hn : n ≤ 9223372036854775807) (h0 : 0 ≤ l) (hx : l ≤ 1048576) : n ≤ 1048576 := by
  rw [IntKind.wrap_i64] at h
  omega

/-- A list that is filled from the left. -/
def fillU {α : Type} (c : α → List AV) (z : List AV) (ws : List α) (i : Nat) : List (List AV) := (ws.take i).map c ++ List.replicate (ws.length - i) z

section
variable {α : Type} (c : α → List AV) (z : List AV) {ws : List α} {i : Nat}
@[simp] theorem fillU_len : (fillU c z ws i).length = ws.length := by simp [fillU]; omega
theorem fillU_get (h : i < ws.length) : (fillU c z ws i)[i]? = some z := by
  have : (List.map c (ws.take i)).length = i := by simp; omega
  rw [fillU, List.getElem?_append_right (by omega), this, Nat.sub_self, List.getElem?_replicate, if_pos (by omega)]
@[simp] theorem fillU_at (h : i < (fillU c z ws i).length) : (fillU c z ws i)[i] = z := by
  have := fillU_get c z (ws := ws) (i := i) (by simpa using h)
  rw [List.getElem?_eq_getElem h] at this
  exact Option.some.inj this
theorem fillU_set {a : α} (h : ws[i]? = some a) : (fillU c z ws i).set i (c a) = fillU c z ws (i + 1) := by
  obtain ⟨hi, hg⟩ := List.getElem?_eq_some_iff.1 h
  have h1 : (List.map c (ws.take i)).length = i := by simp; omega
  rw [fillU, fillU, List.set_append_right _ _ (by omega), h1, Nat.sub_self, show ws.length - i = (ws.length - (i + 1)) + 1 by omega, List.replicate_succ, List.set_cons_zero, take_snoc h]
  simp
theorem fillU_zero : fillU c z ws 0 = List.replicate ws.length z := by simp [fillU]
theorem fillU_all : fillU c z ws ws.length = ws.map c := by simp [fillU]
end

theorem law79 (w : Want) (l : Int) : F 79 [.agg w.c, .int .i64 l] [] = some (.int .i64 (szWant w l), []) := by
  refine F_run fn79 rfl ?_
  simp [c79, szWant, offs]
  by_cases h1 : IntKind.i64.wrap (l - w.copy.size) < 0
  · simp [h1, off_neg h1]
  · rw [off_pos h1]
    by_cases h2 : IntKind.i64.wrap (IntKind.i64.wrap (l - w.copy.size) - w.hold.size) < 0
    · simp [h1, h2, off_neg h2]
    · simp [h1, h2, off_pos h2]

theorem law80 (w : Want) : F 80 [.agg w.c] [] = some (.agg w.c, []) := by
  refine F_run fn80 rfl ?_
  simp [c80]

theorem law83 (w : Want) : F 83 [.agg w.c, .agg w.c] [] = some (.bool true, []) := by
  refine F_run fn83 rfl ?_
  simp [c83]

def headToWant (ws : List Want) (i : Nat) : St := hd [(0, .sl .bor 7 (ws.map Want.c)), (3, .ref 0), (4, .int .i64 i)] [.arr 7 (fillU Want.c [.str ⟨#[]⟩, .int .i64 0, .str ⟨#[]⟩, .int .i64 0, .int .i64 0, .int .i64 0, .int .i64 0] ws i)] 0

theorem law4 (ws : List Want) (hl : ws.length ≤ 1048576) : F 4 [.sl .bor 7 (ws.map Want.c)] [] = some (.sl .own 7 (ws.map Want.c), []) := by
  refine F_run fn4 rfl ?_
  have hb : (ws.length : Int) * 72 ≤ 140737488355328 := by omega
  simp [c4, hb]
  refine (loop_list ws (fun i (_ : Unit) => headToWant ws i) (fun _ _ => True) (fun _ _ _ => (.sl .own 7 (ws.map Want.c), [])) (fun acc Y _ => ?_) (fun i a r acc Y ha hi hr _ hY => ?_) () ?_ trivial ?_).trans rfl
  · simp [headToWant, c4b0, fillU_all]
  · have hw : IntKind.i64.wrap ((i : Int) + 1) = (i : Int) + 1 := i64w (by omega) (by omega)
    obtain ⟨_, hg⟩ := List.getElem?_eq_some_iff.1 ha
    have h1 := law80 a
    simp only [Want.c] at h1
    simp [headToWant, c4b0, hi, hg, h1]
    rw [hY () _ trivial]
    have h2 := fillU_set Want.c [.str ⟨#[]⟩, .int .i64 0, .str ⟨#[]⟩, .int .i64 0, .int .i64 0, .int .i64 0, .int .i64 0] ha
    simp only [Want.c] at h2
    simp [headToWant, hw, h2]
  · simp [headToWant, fillU_zero]
  · unfold big; omega


def headSzWant (ws : List Want) (l : Int) (i : Nat) : St := hd [(0, .sl .bor 7 (ws.map Want.c)), (1, .int .i64 l), (5, .int .i64 i)] [] 0

theorem law8 (ws : List Want) (l : Int) (hl : ws.length ≤ 9223372036854775807) (h0 : 0 ≤ l) (hx : l ≤ 1048576) : F 8 [.sl .bor 7 (ws.map Want.c), .int .i64 l] [] = some (.int .i64 (szWants ws l), []) := by
  refine F_run fn8 rfl ?_
  simp [c8, szWants]
  by_cases h1 : IntKind.i64.wrap (l - ws.length) < 0
  · simp [h1, off_neg h1]
  · rw [off_pos h1]
    have h2 : ¬ (IntKind.i64.wrap (l - ws.length) < 0) := h1
    have hn : ws.length ≤ 1048576 := wrap_len h1 hl h0 hx
    simp [h1]
    refine (loop_list ws (fun i (l : Int) => headSzWant ws l i) (fun _ _ => True) (fun _ r l => (.int .i64 (szWantGo r l), [])) (fun acc Y _ => ?_) (fun i a r acc Y ha hi hr _ hY => ?_) _ ?_ trivial ?_).trans rfl
    · simp [headSzWant, c8b0, szWantGo]
    · have hw : IntKind.i64.wrap ((i : Int) + 1) = (i : Int) + 1 := i64w (by omega) (by omega)
      obtain ⟨_, hg⟩ := List.getElem?_eq_some_iff.1 ha
      have h1 := law79 a acc
      simp only [Want.c] at h1
      simp [headSzWant, c8b0, hi, hg, h1, szWantGo]
      by_cases h3 : szWant a acc < 0
      · simp [h3]
      · simp [h3]
        rw [hY _ _ trivial]
        simp [headSzWant, hw]
    · simp [headSzWant]
    · unfold big; omega


def headEqWant (ws : List Want) (i : Nat) : St := hd [(0, .sl .bor 7 (ws.map Want.c)), (1, .sl .bor 7 (ws.map Want.c)), (5, .int .i64 i)] [] 0

theorem law5 (ws : List Want) (hl : ws.length < big) : F 5 [.sl .bor 7 (ws.map Want.c), .sl .bor 7 (ws.map Want.c)] [] = some (.bool true, []) := by
  refine F_run fn5 rfl ?_
  have hm : ws.length ≤ 9223372036854775807 := by unfold big at hl; omega
  simp [c5]
  refine (loop_list ws (fun i (_ : Unit) => headEqWant ws i) (fun _ _ => True) (fun _ r l => (.bool true, [])) (fun acc Y _ => ?_) (fun i a r acc Y ha hi hr _ hY => ?_) () ?_ trivial ?_).trans rfl
  · simp [headEqWant, c5b0]
  · have hw : IntKind.i64.wrap ((i : Int) + 1) = (i : Int) + 1 := i64w (by omega) (by omega)
    obtain ⟨_, hg⟩ := List.getElem?_eq_some_iff.1 ha
    have h1 := law83 a
    simp only [Want.c] at h1
    simp [headEqWant, c5b0, hi, hg, h1]
    rw [hY () _ trivial]
    simp [headEqWant, hw]
  · simp [headEqWant]
  · exact hl


theorem szWants_len {ws : List Want} {l : Int} (h : 0 ≤ szWants ws l) (hl : ws.length ≤ 9223372036854775807) (h0 : 0 ≤ l) (hx : l ≤ 1048576) : ws.length ≤ 1048576 := by
  unfold szWants at h
  by_cases h2 : IntKind.i64.wrap (l - ws.length) < 0
  · rw [off_neg h2] at h; simp at h
  · exact wrap_len h2 hl h0 hx
end Go.Proofs.YthncjlbkncmekaaDoor

namespace Go.Proofs.YthncjlbkncmekaaDoor
open Go
set_option linter.unusedSimpArgs false
set_option maxRecDepth 100000

def szRun (r : Run) (l : Int) : Int := if szWant r.want l < 0 then -1 else szWant r.want l
def szRunGo : List Run → Int → Int
  | [], l => l
  | w :: r, l => if szRun w l < 0 then -1 else szRunGo r (szRun w l)
def szRuns (ws : List Run) (l : Int) : Int := if off l ws.length < 0 then -1 else szRunGo ws (off l ws.length)

def headToRun (ws : List Run) (i : Nat) : St := hd [(0, .sl .bor 11 (ws.map Run.c)), (3, .ref 0), (4, .int .i64 i)] [.arr 11 (fillU Run.c [.str ⟨#[]⟩, .int .i64 0, .str ⟨#[]⟩, .int .i64 0, .int .i64 0, .int .i64 0, .int .i64 0, .int .i64 0, .int .i64 0, .int .i64 0, .int .i64 0] ws i)] 0

def headSzRun (ws : List Run) (l : Int) (i : Nat) : St := hd [(0, .sl .bor 11 (ws.map Run.c)), (1, .int .i64 l), (5, .int .i64 i)] [] 0

def headEqRun (ws : List Run) (i : Nat) : St := hd [(0, .sl .bor 11 (ws.map Run.c)), (1, .sl .bor 11 (ws.map Run.c)), (5, .int .i64 i)] [] 0

theorem szRuns_len {ws : List Run} {l : Int} (h : 0 ≤ szRuns ws l) (hl : ws.length ≤ 9223372036854775807) (h0 : 0 ≤ l) (hx : l ≤ 1048576) : ws.length ≤ 1048576 := by
  unfold szRuns at h
  by_cases h2 : IntKind.i64.wrap (l - ws.length) < 0
  · rw [off_neg h2] at h; simp at h
  · exact wrap_len h2 hl h0 hx
end Go.Proofs.YthncjlbkncmekaaDoor

namespace Go.Proofs.YthncjlbkncmekaaDoor
open Go
set_option linter.unusedSimpArgs false
set_option maxRecDepth 100000

/-- One more, as Go counts. -/
def up (k : Int) : Int := IntKind.i64.wrap (k + 1)
theorem up_fold (k : Int) : IntKind.i64.wrap (k + 1) = up k := rfl
theorem up_is {k : Int} (h0 : -9223372036854775808 ≤ k) (h1 : k < 9223372036854775807) : up k = k + 1 := i64w (by omega) (by omega)
def it (f : Int → Int) : Nat → Int → Int
  | 0, k => k
  | n + 1, k => f (it f n k)

def markByte (k : Nat) : UInt8 := UInt8.ofNat (IntKind.u8.wrap (IntKind.i64.wrap (48 + Int.tmod (k : Int) 10))).toNat
def markGo (k : Nat) (out : T) : T := if _ : k = 0 then out else markGo (k / 10) (⟨#[markByte k]⟩ ++ out)
termination_by k
decreasing_by omega
def markText (k : Int) : T := if k ≤ 0 then ⟨#[109, 48]⟩ else ⟨#[109]⟩ ++ markGo k.toNat ⟨#[]⟩

theorem size_app (a b : T) : (a ++ b).size = a.size + b.size := ByteArray.size_append

def head96 (k : Nat) (out : T) : St := hd [(0, .int .i64 k), (3, .str out)] [] 0

theorem markGo_size : ∀ (n k : Nat) (out : T), k < 10 ^ n → (markGo k out).size ≤ out.size + n
  | 0, k, out, h => by
    have : k = 0 := by simpa using h
    rw [markGo, dif_pos this]; omega
  | n + 1, k, out, h => by
    rw [markGo]
    split
    · omega
    · have h2 : k / 10 < 10 ^ n := Nat.div_lt_of_lt_mul (by rw [Nat.pow_succ] at h; omega)
      have := markGo_size n (k / 10) (⟨#[markByte k]⟩ ++ out) h2
      rw [size_app] at this
      have h1 : (⟨#[markByte k]⟩ : T).size = 1 := rfl
      omega

/-- A list whose first places are another's. -/
def mixU {α : Type} (c : α → List AV) (ws ms : List α) (i : Nat) : List (List AV) := (ms.take i).map c ++ (ws.drop i).map c

section
variable {α : Type} (c : α → List AV) {ws ms : List α} {i : Nat}
theorem mixU_len (h : ms.length = ws.length) (hi : i ≤ ws.length) : (mixU c ws ms i).length = ws.length := by simp [mixU]; omega
theorem mixU_get {a : α} (ha : ws[i]? = some a) (h : ms.length = ws.length) : (mixU c ws ms i)[i]? = some (c a) := by
  obtain ⟨hi, hg⟩ := List.getElem?_eq_some_iff.1 ha
  have h1 : (List.map c (ms.take i)).length = i := by simp; omega
  rw [mixU, List.getElem?_append_right (by omega), h1, Nat.sub_self, List.getElem?_map, List.getElem?_drop]
  simp [ha]
theorem mixU_set {b : α} (hb : ms[i]? = some b) (h : ms.length = ws.length) : (mixU c ws ms i).set i (c b) = mixU c ws ms (i + 1) := by
  obtain ⟨hi, hg⟩ := List.getElem?_eq_some_iff.1 hb
  have h1 : (List.map c (ms.take i)).length = i := by simp; omega
  rw [mixU, mixU, List.set_append_right _ _ (by omega), h1, Nat.sub_self, List.drop_eq_getElem_cons (show i < ws.length by omega), List.map_cons, List.set_cons_zero, take_snoc hb]
  simp
theorem mixU_at {a : α} (ha : ws[i]? = some a) (h : ms.length = ws.length) (hl : i < (mixU c ws ms i).length) : (mixU c ws ms i)[i] = c a := by
  have := mixU_get c ha h
  rw [List.getElem?_eq_getElem hl] at this
  exact Option.some.inj this
theorem mixU_same {a : α} (ha : ws[i]? = some a) (hb : ms[i]? = some a) (h : ms.length = ws.length) : mixU c ws ms i = mixU c ws ms (i + 1) := by
  have hi := (List.getElem?_eq_some_iff.1 ha).1
  have hl : i < (mixU c ws ms i).length := by rw [mixU_len c h (by omega)]; exact hi
  have := List.set_getElem_self (as := mixU c ws ms i) (i := i) hl
  rw [mixU_at c ha h hl] at this
  rw [← mixU_set c hb h, this]
theorem mixU_zero : mixU c ws ms 0 = ws.map c := by simp [mixU]
theorem mixU_all (h : ms.length = ws.length) : mixU c ws ms ws.length = ms.map c := by simp [mixU, ← h]
end

theorem it_upj {k : Int} (h0 : 0 ≤ k) (h1 : k ≤ 100000000000000) : ∀ j : Nat, j ≤ 100 → it up j k = k + j := by
  intro j
  induction j with
  | zero => intro _; simp [it]
  | succ j ih =>
    intro hj
    rw [it, ih (by omega), up_is (by omega) (by omega)]
    omega

def up4 (k : Int) : Int := up (up (up (up k)))
theorem up4_is {k : Int} (h0 : 0 ≤ k) (h1 : k ≤ 100000000000000) : up4 k = k + 4 := by
  have := it_upj h0 h1 4 (by omega)
  exact this
theorem it_up4 {k : Int} {n : Nat} (h0 : 0 ≤ k) (hk : k ≤ 10000000000000) (hn : n ≤ 1048576) : it up4 n k = k + 4 * n := by
  induction n with
  | zero => simp [it]
  | succ n ih =>
    have := ih (by omega)
    rw [it, this, up4_is (by omega) (by omega)]
    omega
theorem it_up_le4 {k : Int} {i : Nat} (h0 : 0 ≤ k) (hk : k ≤ 10000000000000) (hi : i ≤ 1048576) : ∀ j, j ≤ 11 → it up j (it up4 i k) ≤ 100000000000000 := by
  intro j hj
  have h1 := it_up4 (n := i) h0 hk hi
  have h2 : ∀ j, j ≤ 11 → it up j (it up4 i k) = it up4 i k + j := by
    intro j
    induction j with
    | zero => intro _; simp [it]
    | succ j ih =>
      intro hj
      rw [it, ih (by omega), up_is (by omega) (by omega)]
      omega
  rw [h2 j hj]
  omega

def up5 (k : Int) : Int := up (up (up (up (up k))))
theorem up5_is {k : Int} (h0 : 0 ≤ k) (h1 : k ≤ 100000000000000) : up5 k = k + 5 := by
  have := it_upj h0 h1 5 (by omega)
  exact this
theorem it_up5 {k : Int} {n : Nat} (h0 : 0 ≤ k) (hk : k ≤ 10000000000000) (hn : n ≤ 1048576) : it up5 n k = k + 5 * n := by
  induction n with
  | zero => simp [it]
  | succ n ih =>
    have := ih (by omega)
    rw [it, this, up5_is (by omega) (by omega)]
    omega
theorem it_up_le5 {k : Int} {i : Nat} (h0 : 0 ≤ k) (hk : k ≤ 10000000000000) (hi : i ≤ 1048576) : ∀ j, j ≤ 11 → it up j (it up5 i k) ≤ 100000000000000 := by
  intro j hj
  have h1 := it_up5 (n := i) h0 hk hi
  have h2 : ∀ j, j ≤ 11 → it up j (it up5 i k) = it up5 i k + j := by
    intro j
    induction j with
    | zero => intro _; simp [it]
    | succ j ih =>
      intro hj
      rw [it, ih (by omega), up_is (by omega) (by omega)]
      omega
  rw [h2 j hj]
  omega

def up7 (k : Int) : Int := up (up (up (up (up (up (up k))))))
theorem up7_is {k : Int} (h0 : 0 ≤ k) (h1 : k ≤ 100000000000000) : up7 k = k + 7 := by
  have := it_upj h0 h1 7 (by omega)
  exact this
theorem it_up7 {k : Int} {n : Nat} (h0 : 0 ≤ k) (hk : k ≤ 10000000000000) (hn : n ≤ 1048576) : it up7 n k = k + 7 * n := by
  induction n with
  | zero => simp [it]
  | succ n ih =>
    have := ih (by omega)
    rw [it, this, up7_is (by omega) (by omega)]
    omega
theorem it_up_le7 {k : Int} {i : Nat} (h0 : 0 ≤ k) (hk : k ≤ 10000000000000) (hi : i ≤ 1048576) : ∀ j, j ≤ 11 → it up j (it up7 i k) ≤ 100000000000000 := by
  intro j hj
  have h1 := it_up7 (n := i) h0 hk hi
  have h2 : ∀ j, j ≤ 11 → it up j (it up7 i k) = it up7 i k + j := by
    intro j
    induction j with
    | zero => intro _; simp [it]
    | succ j ih =>
      intro hj
      rw [it, ih (by omega), up_is (by omega) (by omega)]
      omega
  rw [h2 j hj]
  omega

def up11 (k : Int) : Int := up (up (up (up (up (up (up (up (up (up (up k))))))))))
theorem up11_is {k : Int} (h0 : 0 ≤ k) (h1 : k ≤ 100000000000000) : up11 k = k + 11 := by
  have := it_upj h0 h1 11 (by omega)
  exact this
theorem it_up11 {k : Int} {n : Nat} (h0 : 0 ≤ k) (hk : k ≤ 10000000000000) (hn : n ≤ 1048576) : it up11 n k = k + 11 * n := by
  induction n with
  | zero => simp [it]
  | succ n ih =>
    have := ih (by omega)
    rw [it, this, up11_is (by omega) (by omega)]
    omega
theorem it_up_le11 {k : Int} {i : Nat} (h0 : 0 ≤ k) (hk : k ≤ 10000000000000) (hi : i ≤ 1048576) : ∀ j, j ≤ 11 → it up j (it up11 i k) ≤ 100000000000000 := by
  intro j hj
  have h1 := it_up11 (n := i) h0 hk hi
  have h2 : ∀ j, j ≤ 11 → it up j (it up11 i k) = it up11 i k + j := by
    intro j
    induction j with
    | zero => intro _; simp [it]
    | succ j ih =>
      intro hj
      rw [it, ih (by omega), up_is (by omega) (by omega)]
      omega
  rw [h2 j hj]
  omega

end Go.Proofs.YthncjlbkncmekaaDoor

namespace Go.Proofs.YthncjlbkncmekaaDoor
open Go
set_option linter.unusedSimpArgs false
set_option maxRecDepth 100000

def markRun (k : Int) : Run := ⟨⟨markText (k), up k, markText (up (up k)), up (up (up k)), up (up (up (up k))), up (up (up (up (up k)))), up (up (up (up (up (up k)))))⟩, up (up (up (up (up (up (up k)))))), up (up (up (up (up (up (up (up k))))))), up (up (up (up (up (up (up (up (up k)))))))), up (up (up (up (up (up (up (up (up (up k)))))))))⟩
def marksRun (n : Nat) (k : Int) : List Run := (List.range n).map fun i => markRun (it up11 i k)

def headMkRun (ws : List Run) (k : Int) (i : Nat) : St := hd [(0, .ref 0), (1, .int .i64 (it up11 i k)), (5, .int .i64 i)] [.arr 11 (mixU Run.c ws (marksRun ws.length k) i)] 1

def headHlRun (m : Md) (ws : List Run) (k : Int) (i : Nat) : St := hd [(0, .sl m 11 (ws.map Run.c)), (1, .int .i64 (it up11 i k)), (5, .int .i64 i)] [] 0

end Go.Proofs.YthncjlbkncmekaaDoor

namespace Go.Proofs.YthncjlbkncmekaaDoor
open Go
set_option linter.unusedSimpArgs false
set_option maxRecDepth 100000

def szAsk (a : Ask) (l : Int) : Int := offs l [a.hold.size, a.copy.size]
def szAskGo : List Ask → Int → Int
  | [], l => l
  | w :: r, l => if szAsk w l < 0 then -1 else szAskGo r (szAsk w l)
def szAsks (ws : List Ask) (l : Int) : Int := if off l ws.length < 0 then -1 else szAskGo ws (off l ws.length)

def headToAsk (ws : List Ask) (i : Nat) : St := hd [(0, .sl .bor 4 (ws.map Ask.c)), (3, .ref 0), (4, .int .i64 i)] [.arr 4 (fillU Ask.c [.str ⟨#[]⟩, .str ⟨#[]⟩, .int .i64 0, .int .i64 0] ws i)] 0

def headSzAsk (ws : List Ask) (l : Int) (i : Nat) : St := hd [(0, .sl .bor 4 (ws.map Ask.c)), (1, .int .i64 l), (5, .int .i64 i)] [] 0

def headEqAsk (ws : List Ask) (i : Nat) : St := hd [(0, .sl .bor 4 (ws.map Ask.c)), (1, .sl .bor 4 (ws.map Ask.c)), (5, .int .i64 i)] [] 0

end Go.Proofs.YthncjlbkncmekaaDoor

namespace Go.Proofs.YthncjlbkncmekaaDoor
open Go
set_option linter.unusedSimpArgs false
set_option maxRecDepth 100000

theorem off_le {l : Int} {n : Nat} (h0 : 0 ≤ l) (hn : n ≤ maxLen) (h : 0 ≤ off l n) (hx : l ≤ 1048576) : off l n ≤ l ∧ n ≤ 1048576 := by
  have hm : maxLen = 9223372036854775807 := rfl
  by_cases h2 : IntKind.i64.wrap (l - n) < 0
  · rw [off_neg h2] at h; simp at h
  · rw [off_pos h2] at *
    rw [i64w (by omega) (by omega)] at *
    omega

theorem szWant_le {w : Want} {l : Int} (hw : w.wf) (h0 : 0 ≤ l) (hx : l ≤ 1048576) (h : 0 ≤ szWant w l) : szWant w l ≤ l := by
  unfold szWant offs offs offs at *
  split at h
  · simp at h
  · rename_i h1
    have k1 := off_le h0 hw.copy (by omega) hx
    rw [if_neg h1]
    split at h
    · simp at h
    · rename_i h2
      have k2 := off_le (l := off l w.copy.size) (by omega) hw.hold (by omega) (by omega)
      rw [if_neg h2]
      omega

theorem szRun_le {w : Run} {l : Int} (hw : w.wf) (h0 : 0 ≤ l) (hx : l ≤ 1048576) (h : 0 ≤ szRun w l) : szRun w l ≤ l := by
  unfold szRun at *
  split at h
  · simp at h
  · rename_i h1
    rw [if_neg h1]
    exact szWant_le hw.want h0 hx h

theorem szAsk_le {w : Ask} {l : Int} (hw : w.wf) (h0 : 0 ≤ l) (hx : l ≤ 1048576) (h : 0 ≤ szAsk w l) : szAsk w l ≤ l := by
  unfold szAsk offs offs offs at *
  split at h
  · simp at h
  · rename_i h1
    have k1 := off_le h0 hw.hold (by omega) hx
    rw [if_neg h1]
    split at h
    · simp at h
    · rename_i h2
      have k2 := off_le (l := off l w.hold.size) (by omega) hw.copy (by omega) (by omega)
      rw [if_neg h2]
      omega

theorem szWants_le {ws : List Want} {l : Int} (hw : ListWf Want.wf ws) (h0 : 0 ≤ l) (hx : l ≤ 1048576) (h : 0 ≤ szWants ws l) : szWants ws l ≤ l ∧ ws.length ≤ 1048576 := by
  have go : ∀ (ws : List Want) (l : Int), (∀ w ∈ ws, w.wf) → 0 ≤ l → l ≤ 1048576 → 0 ≤ szWantGo ws l → szWantGo ws l ≤ l := by
    intro ws
    induction ws with
    | nil => intro l _ _ _ _; exact Int.le_refl _
    | cons w r ih =>
      intro l hw h0 hx h
      simp only [szWantGo] at h ⊢
      split at h
      · simp at h
      · rename_i h1
        rw [if_neg h1]
        have k1 := szWant_le (hw w List.mem_cons_self) h0 hx (by omega)
        have := ih _ (fun x hx => hw x (List.mem_cons_of_mem _ hx)) (by omega) (by omega) h
        omega
  unfold szWants at *
  split at h
  · simp at h
  · rename_i h1
    have k1 := off_le h0 hw.len (by omega) hx
    rw [if_neg h1]
    have := go ws _ hw.all (by omega) (by omega) h
    omega

theorem szRuns_le {ws : List Run} {l : Int} (hw : ListWf Run.wf ws) (h0 : 0 ≤ l) (hx : l ≤ 1048576) (h : 0 ≤ szRuns ws l) : szRuns ws l ≤ l ∧ ws.length ≤ 1048576 := by
  have go : ∀ (ws : List Run) (l : Int), (∀ w ∈ ws, w.wf) → 0 ≤ l → l ≤ 1048576 → 0 ≤ szRunGo ws l → szRunGo ws l ≤ l := by
    intro ws
    induction ws with
    | nil => intro l _ _ _ _; exact Int.le_refl _
    | cons w r ih =>
      intro l hw h0 hx h
      simp only [szRunGo] at h ⊢
      split at h
      · simp at h
      · rename_i h1
        rw [if_neg h1]
        have k1 := szRun_le (hw w List.mem_cons_self) h0 hx (by omega)
        have := ih _ (fun x hx => hw x (List.mem_cons_of_mem _ hx)) (by omega) (by omega) h
        omega
  unfold szRuns at *
  split at h
  · simp at h
  · rename_i h1
    have k1 := off_le h0 hw.len (by omega) hx
    rw [if_neg h1]
    have := go ws _ hw.all (by omega) (by omega) h
    omega

theorem szAsks_le {ws : List Ask} {l : Int} (hw : ListWf Ask.wf ws) (h0 : 0 ≤ l) (hx : l ≤ 1048576) (h : 0 ≤ szAsks ws l) : szAsks ws l ≤ l ∧ ws.length ≤ 1048576 := by
  have go : ∀ (ws : List Ask) (l : Int), (∀ w ∈ ws, w.wf) → 0 ≤ l → l ≤ 1048576 → 0 ≤ szAskGo ws l → szAskGo ws l ≤ l := by
    intro ws
    induction ws with
    | nil => intro l _ _ _ _; exact Int.le_refl _
    | cons w r ih =>
      intro l hw h0 hx h
      simp only [szAskGo] at h ⊢
      split at h
      · simp at h
      · rename_i h1
        rw [if_neg h1]
        have k1 := szAsk_le (hw w List.mem_cons_self) h0 hx (by omega)
        have := ih _ (fun x hx => hw x (List.mem_cons_of_mem _ hx)) (by omega) (by omega) h
        omega
  unfold szAsks at *
  split at h
  · simp at h
  · rename_i h1
    have k1 := off_le h0 hw.len (by omega) hx
    rw [if_neg h1]
    have := go ws _ hw.all (by omega) (by omega) h
    omega

/-- One part after another. -/
def szThen (a : Int) (f : Int → Int) : Int := if a < 0 then -1 else f a
def szMate (m : Mate) (l : Int) : Int := szThen (off l m.name.size) fun l => szThen (szWants m.wants l) fun l => szThen (szRuns m.runs l) fun l => szThen (szAsks m.asks l) fun l => szAsks m.gives l

theorem szThen_neg {a : Int} {f : Int → Int} (h : a < 0) : szThen a f = -1 := if_pos h
theorem szThen_pos {a : Int} {f : Int → Int} (h : 0 ≤ a) : szThen a f = f a := if_neg (by omega)

end Go.Proofs.YthncjlbkncmekaaDoor

namespace Go.Proofs.YthncjlbkncmekaaDoor
open Go
set_option linter.unusedSimpArgs false
set_option maxRecDepth 100000

def markWant (k : Int) : Want := ⟨markText (k), up k, markText (up (up k)), up (up (up k)), up (up (up (up k))), up (up (up (up (up k)))), up (up (up (up (up (up k)))))⟩
def marksWant (n : Nat) (k : Int) : List Want := (List.range n).map fun i => markWant (it up7 i k)

def headMkWant (ws : List Want) (k : Int) (i : Nat) : St := hd [(0, .ref 0), (1, .int .i64 (it up7 i k)), (5, .int .i64 i)] [.arr 7 (mixU Want.c ws (marksWant ws.length k) i)] 1

def headHlWant (m : Md) (ws : List Want) (k : Int) (i : Nat) : St := hd [(0, .sl m 7 (ws.map Want.c)), (1, .int .i64 (it up7 i k)), (5, .int .i64 i)] [] 0

def markAsk (k : Int) : Ask := ⟨markText (k), markText (up k), up (up k), up (up (up k))⟩
def marksAsk (n : Nat) (k : Int) : List Ask := (List.range n).map fun i => markAsk (it up4 i k)

def headMkAsk (ws : List Ask) (k : Int) (i : Nat) : St := hd [(0, .ref 0), (1, .int .i64 (it up4 i k)), (5, .int .i64 i)] [.arr 4 (mixU Ask.c ws (marksAsk ws.length k) i)] 1

def headHlAsk (m : Md) (ws : List Ask) (k : Int) (i : Nat) : St := hd [(0, .sl m 4 (ws.map Ask.c)), (1, .int .i64 (it up4 i k)), (5, .int .i64 i)] [] 0

def markMate (m : Mate) (k : Int) : Mate :=
  { m with
    wants := marksWant m.wants.length k
    runs := marksRun m.runs.length (k + 7 * m.wants.length)
    asks := marksAsk m.asks.length (k + 7 * m.wants.length + 11 * m.runs.length)
    gives := marksAsk m.gives.length (k + 7 * m.wants.length + 11 * m.runs.length + 4 * m.asks.length) }
def markMateK (m : Mate) (k : Int) : Int := k + 7 * m.wants.length + 11 * m.runs.length + 4 * m.asks.length + 4 * m.gives.length

/-- A mate's cells, its lists being the arrays from n on. -/
def Mate.refs (n : Nat) (x : Mate) : List AV := [.str x.name, .bool x.up, .int .i64 x.clock, .bool x.known, .int .i64 x.seen, .ref n, .ref (n + 1), .ref (n + 2), .ref (n + 3)]
def Mate.arrs (x : Mate) : List AO := [.arr 7 (x.wants.map Want.c), .arr 11 (x.runs.map Run.c), .arr 4 (x.asks.map Ask.c), .arr 4 (x.gives.map Ask.c)]

theorem markMateK_pos {m : Mate} {k : Int} (h : 0 ≤ k) : ¬ (markMateK m k < 0) := by unfold markMateK; omega
end Go.Proofs.YthncjlbkncmekaaDoor

namespace Go.Proofs.YthncjlbkncmekaaDoor
open Go
set_option linter.unusedSimpArgs false
set_option maxRecDepth 100000

structure Parcel.small (p : Parcel) : Prop where
  wants : p.wants.length ≤ 1048576

theorem law60 (p : Parcel) (hp : p.small) : F 60 [.agg (p.c .bor)] [] = some (.agg (p.c .own), []) := by
  refine F_run fn60 rfl ?_
  simp [c60, law4 p.wants hp.wants]

theorem law63 (p : Parcel) (hp : p.small) : F 63 [.agg (p.c .bor), .agg (p.c .bor)] [] = some (.bool true, []) := by
  refine F_run fn63 rfl ?_
  have := hp.wants
  simp [c63, law5 p.wants (by unfold big; omega)]

theorem law65 (p : Parcel) (l : Int) (hw : p.wf) (h0 : 0 ≤ l) (hx : l ≤ 1048576) : ∃ r, F 65 [.agg (p.c .bor), .int .i64 l] [] = some (.int .i64 r, []) ∧ (r < 0 ∨ (0 ≤ r ∧ r ≤ l ∧ p.small)) := by
  have hL : maxLen = 9223372036854775807 := rfl
  by_cases k1 : IntKind.i64.wrap (l - p.berth.size) < 0
  · refine ⟨-1, F_run fn65 rfl ?_, .inl (by omega)⟩
    simp [c65, k1]
  have e1 := off_le h0 hw.berth (by rw [off_pos k1]; omega) hx
  rw [off_pos k1] at e1
  generalize hl1 : IntKind.i64.wrap (l - p.berth.size) = l1 at k1 e1
  have w1 := law8 p.wants l1 (by have := hw.wants.len; omega) (by omega) (by omega)
  rcases Int.lt_or_le (szWants p.wants l1) 0 with k2 | k2
  · refine ⟨-1, F_run fn65 rfl ?_, .inl (by omega)⟩
    simp [c65, hl1, k1, w1, k2]
  have e2 := szWants_le hw.wants (by omega) (by omega) k2
  have k2' : ¬ (szWants p.wants l1 < 0) := by omega
  by_cases k3 : IntKind.i64.wrap (szWants p.wants l1 - p.hold.size) < 0
  · refine ⟨-1, F_run fn65 rfl ?_, .inl (by omega)⟩
    simp [c65, hl1, k1, w1, k2', k3]
  have e3 := off_le k2 hw.hold (by rw [off_pos k3]; omega) (by omega)
  rw [off_pos k3] at e3
  generalize hl3 : IntKind.i64.wrap (szWants p.wants l1 - p.hold.size) = l3 at k3 e3
  by_cases k4 : IntKind.i64.wrap (l3 - p.copy.size) < 0
  · refine ⟨-1, F_run fn65 rfl ?_, .inl (by omega)⟩
    simp [c65, hl1, k1, w1, k2', hl3, k3, k4]
  have e4 := off_le (l := l3) (by omega) hw.copy (by rw [off_pos k4]; omega) (by omega)
  rw [off_pos k4] at e4
  refine ⟨IntKind.i64.wrap (l3 - p.copy.size), F_run fn65 rfl ?_, .inr ⟨by omega, by omega, ⟨e2.2⟩⟩⟩
  simp [c65, hl1, k1, w1, k2', hl3, k3, k4]

end Go.Proofs.YthncjlbkncmekaaDoor

namespace Go.Proofs.YthncjlbkncmekaaDoor
open Go
set_option linter.unusedSimpArgs false
set_option maxRecDepth 100000

theorem isName_size {s : T} (h : isName s = true) : s.size ≤ 20 := by
  simp only [isName, Bool.and_eq_true, decide_eq_true_eq] at h
  exact h.1.2
theorem holdOk_size {s : T} (h : (sEq s ⟨#[]⟩ || isHold s) = true) : s.size ≤ 20 := by
  rcases Bool.or_eq_true_iff.1 h with h | h
  · rw [(sEq_iff _ _).1 h]; decide
  · simp only [isHold, Bool.and_eq_true] at h
    exact isName_size h.1
theorem wantOk_fits {w : Want} (h : wantOk w = true) : w.fits := by
  simp only [wantOk, Bool.and_eq_true, inR, decide_eq_true_eq] at h
  obtain ⟨⟨⟨⟨⟨⟨h1, h2⟩, h3⟩, h4⟩, h5⟩, h6⟩, h7⟩ := h
  exact ⟨isName_size h1, holdOk_size h3, ⟨by omega, by omega⟩, ⟨by omega, by omega⟩, ⟨by omega, by omega⟩, ⟨by omega, by omega⟩, ⟨by omega, by omega⟩⟩
theorem wantOk_star {w : Want} (h : wantOk w = true) : sEq w.hold ⟨#[42]⟩ = false := by
  simp only [wantOk, Bool.and_eq_true] at h
  have h3 := h.1.1.1.1.2
  rcases Bool.or_eq_true_iff.1 h3 with h | h
  · rw [(sEq_iff _ _).1 h]; exact sEq_ne (by intro e; cases e)
  · simp only [isHold, Bool.and_eq_true, Bool.not_eq_true'] at h
    exact h.2

theorem formWant_size {w : Want} (h : w.fits) : (formWant w).size ≤ 90 := by
  obtain ⟨h1, h2, n1, n2, n3, n4, n5⟩ := h
  have b1 := (law140' _ n1.1 n1.2).2
  have b2 := (law140' _ n2.1 n2.2).2
  have b3 := (law140' _ n3.1 n3.2).2
  have b4 := (law140' _ n4.1 n4.2).2
  have b5 := (law140' _ n5.1 n5.2).2
  have hh := starOr_size h2
  have z1 : (⟨#[119, 97, 110, 116, 32]⟩ : T).size = 5 := rfl
  have z2 : (⟨#[32]⟩ : T).size = 1 := rfl
  have z3 : (⟨#[10]⟩ : T).size = 1 := rfl
  unfold formWant
  simp only [app_size]
  omega

theorem digit_eq {d : Nat} : digit d = ⟨#[UInt8.ofNat (48 + d)]⟩ := by
  unfold digit
  congr 2
  simp [UInt8.ofNat_add]
theorem dec_lib : ∀ n : Nat, (dec n).data.toList = Lib.decDigits n := by
  intro n
  induction n using Nat.strongRecOn with
  | ind n ih =>
    rw [dec, Lib.decDigits]
    split
    · rw [digit_eq]
    · rw [text_append, ih (n / 10) (by omega), digit_eq]
theorem itoa_dec {n : Int} (h : 0 ≤ n) : itoaT n = dec n.toNat := by
  apply text_ext
  rw [dec_lib]
  simp [itoaT, Lib.itoa, show ¬ n < 0 by omega]

def noHold (p : Parcel) : Bool := sEq p.hold ⟨#[]⟩ && (sEq p.copy ⟨#[]⟩ && p.at_ == 0)
def toldHead (p : Parcel) : T := (⟨#[116, 111, 108, 100, 32]⟩ : T) ++ p.berth ++ (⟨#[32]⟩ : T) ++ dec p.seen.toNat ++ (⟨#[10]⟩ : T)
def formWants (acc : T) : List Want → T
  | [] => acc
  | w :: ws => formWants (acc ++ formWant w) ws
def word (k : Int) : T := if k = 2 then (⟨#[97, 115, 107, 101, 100, 32]⟩ : T) else if k = 3 then (⟨#[103, 105, 118, 101, 110, 32]⟩ : T) else (⟨#[98, 97, 99, 107, 32]⟩ : T)
/-- A parcel's text, its parts looked at. -/
def formSw (p : Parcel) (h nh : Bool) : T :=
  if p.kind = 1 then (if inR p.seen 1 1000000 && (wantsOk p.wants && nh) then formWants (toldHead p) p.wants else ⟨#[]⟩)
  else if p.kind = 2 ∨ p.kind = 3 ∨ p.kind = 4 then (if h && (isName p.copy && (inR p.at_ 0 1000000 && (p.seen == 0 && p.wants.isEmpty))) then word p.kind ++ p.berth ++ (⟨#[32]⟩ : T) ++ p.hold ++ (⟨#[32]⟩ : T) ++ p.copy ++ (⟨#[32]⟩ : T) ++ dec p.at_.toNat ++ (⟨#[10]⟩ : T) else ⟨#[]⟩)
  else if p.kind = 5 then (if h && (sEq p.copy ⟨#[]⟩ && (inR p.at_ 0 1000000 && (p.seen == 0 && p.wants.isEmpty))) then (⟨#[103, 111, 116, 98, 97, 99, 107, 32]⟩ : T) ++ p.berth ++ (⟨#[32]⟩ : T) ++ p.hold ++ (⟨#[32]⟩ : T) ++ dec p.at_.toNat ++ (⟨#[10]⟩ : T) else ⟨#[]⟩)
  else if p.kind = 6 then (if inR p.seen 0 1000000 && (p.wants.isEmpty && nh) then (⟨#[104, 101, 114, 101, 32]⟩ : T) ++ p.berth ++ (⟨#[32]⟩ : T) ++ dec p.seen.toNat ++ (⟨#[10]⟩ : T) else ⟨#[]⟩)
  else ⟨#[]⟩
def parcelForm (p : Parcel) : T := if isName p.berth then formSw p (isHold p.hold) (noHold p) else ⟨#[]⟩

theorem inR_le {n a b : Int} (h : inR n a b = true) : a ≤ n ∧ n ≤ b := by simpa [inR] using h

def sw218 : CCode := (.seq (.seq (.region [
    ⟨some 40, .faddr (.tmp 1) 0, none⟩,
    ⟨some 41, .load (.tmp 40) 1 false .plain, none⟩] [1, 3, 4, 5, 6, 41])
  (.block 0
    (.seq (.region [
      ⟨some 43, .bin .eql (.tmp 41) (.const (.int .i64 1)), none⟩,
      ⟨some 42, .mov (.tmp 43), none⟩] [1, 3, 4, 5, 6, 41, 42])
    (.cond (.tmp 42)
      (.seq (.seq (.region [
        ⟨some 44, .faddr (.tmp 1) 2, none⟩,
        ⟨some 45, .load (.tmp 44) 1 false .plain, none⟩,
        ⟨some 46, .call 85 [false, false, false] [.tmp 45, .const (.int .i64 1), .const (.int .i64 1000000)], none⟩,
        ⟨some 47, .un .not (.tmp 46), none⟩,
        ⟨some 48, .mov (.tmp 47), none⟩,
        ⟨some 49, .faddr (.tmp 1) 3, some (48, false)⟩,
        ⟨some 50, .load (.tmp 49) 1 false .plain, some (48, false)⟩,
        ⟨some 51, .call 6 [false] [.tmp 50], some (48, false)⟩,
        ⟨some 52, .un .not (.tmp 51), some (48, false)⟩,
        ⟨some 53, .pick (.tmp 48) (.const (.bool true)) (.tmp 52), none⟩,
        ⟨some 54, .mov (.tmp 53), none⟩,
        ⟨some 55, .mov (.tmp 6), some (54, false)⟩,
        ⟨some 56, .un .not (.tmp 55), some (54, false)⟩,
        ⟨some 57, .pick (.tmp 54) (.const (.bool true)) (.tmp 56), none⟩] [1, 3, 57])
      (.cond (.tmp 57)
        (.seq (.region [
          ⟨some 2, .mov (.const (.str ⟨#[]⟩)), none⟩] [2])
        .ret)
        .skip))
      (.seq (.quiet [
        ⟨some 58, .faddr (.tmp 1) 1, none⟩,
        ⟨some 59, .load (.tmp 58) 1 false .plain, none⟩,
        ⟨some 60, .bin .add (.const (.str ⟨#[116, 111, 108, 100, 32]⟩)) (.tmp 59), none⟩,
        ⟨some 61, .bin .add (.tmp 60) (.const (.str ⟨#[32]⟩)), none⟩,
        ⟨some 62, .mov (.tmp 3), none⟩,
        ⟨some 63, .faddr (.tmp 1) 2, none⟩,
        ⟨some 64, .load (.tmp 63) 1 false .plain, none⟩,
        ⟨some 65, .callf (.tmp 62) [false] [.tmp 64], none⟩,
        ⟨some 66, .bin .add (.tmp 61) (.tmp 65), none⟩,
        ⟨some 67, .bin .add (.tmp 66) (.const (.str ⟨#[10]⟩)), none⟩,
        ⟨some 7, .mov (.tmp 67), none⟩] [1, 3, 7])
      (.seq (.seq (.region [
        ⟨some 68, .faddr (.tmp 1) 3, none⟩,
        ⟨some 69, .load (.tmp 68) 1 false .plain, none⟩,
        ⟨some 70, .len false (.tmp 69), none⟩,
        ⟨some 71, .mov (.const (.int .i64 0)), none⟩] [3, 7, 69, 70, 71])
      (.block 1
        (.loop [3, 7, 69, 70, 71] c218b0)))
      (.seq (.region [
        ⟨some 110, .mov (.tmp 7), none⟩,
        ⟨some 2, .mov (.tmp 110), none⟩] [2])
      .ret))))
      (.seq (.seq (.region [
        ⟨some 112, .bin .eql (.tmp 41) (.const (.int .i64 2)), none⟩,
        ⟨some 111, .mov (.tmp 112), none⟩] [1, 3, 4, 5, 6, 41, 111])
      (.cond (.tmp 111)
        .skip
        (.seq (.region [
          ⟨some 113, .bin .eql (.tmp 41) (.const (.int .i64 3)), none⟩,
          ⟨some 111, .mov (.tmp 113), none⟩] [1, 3, 4, 5, 6, 41, 111])
        (.cond (.tmp 111)
          .skip
          (.region [
            ⟨some 114, .bin .eql (.tmp 41) (.const (.int .i64 4)), none⟩,
            ⟨some 111, .mov (.tmp 114), none⟩] [1, 3, 4, 5, 6, 41, 111])))))
      (.cond (.tmp 111)
        (.seq (.seq (.region [
          ⟨some 115, .mov (.tmp 4), none⟩,
          ⟨some 116, .un .not (.tmp 115), none⟩,
          ⟨some 117, .mov (.tmp 116), none⟩,
          ⟨some 118, .faddr (.tmp 1) 5, some (117, false)⟩,
          ⟨some 119, .load (.tmp 118) 1 false .plain, some (117, false)⟩,
          ⟨some 120, .call 105 [false] [.tmp 119], some (117, false)⟩,
          ⟨some 121, .un .not (.tmp 120), some (117, false)⟩,
          ⟨some 122, .pick (.tmp 117) (.const (.bool true)) (.tmp 121), none⟩,
          ⟨some 123, .mov (.tmp 122), none⟩,
          ⟨some 124, .faddr (.tmp 1) 6, some (123, false)⟩,
          ⟨some 125, .load (.tmp 124) 1 false .plain, some (123, false)⟩,
          ⟨some 126, .call 85 [false, false, false] [.tmp 125, .const (.int .i64 0), .const (.int .i64 1000000)], some (123, false)⟩,
          ⟨some 127, .un .not (.tmp 126), some (123, false)⟩,
          ⟨some 128, .pick (.tmp 123) (.const (.bool true)) (.tmp 127), none⟩,
          ⟨some 129, .mov (.tmp 128), none⟩,
          ⟨some 130, .faddr (.tmp 1) 2, some (129, false)⟩,
          ⟨some 131, .load (.tmp 130) 1 false .plain, some (129, false)⟩,
          ⟨some 132, .bin .neq (.tmp 131) (.const (.int .i64 0)), some (129, false)⟩,
          ⟨some 133, .pick (.tmp 129) (.const (.bool true)) (.tmp 132), none⟩,
          ⟨some 134, .mov (.tmp 133), none⟩,
          ⟨some 135, .mov (.tmp 5), some (134, false)⟩,
          ⟨some 136, .un .not (.tmp 135), some (134, false)⟩,
          ⟨some 137, .pick (.tmp 134) (.const (.bool true)) (.tmp 136), none⟩] [1, 3, 137])
        (.cond (.tmp 137)
          (.seq (.region [
            ⟨some 2, .mov (.const (.str ⟨#[]⟩)), none⟩] [2])
          .ret)
          .skip))
        (.seq (.loud [
          ⟨some 138, .bslice 1 [.str ⟨#[]⟩] 3 [(0, .const (.str ⟨#[97, 115, 107, 101, 100]⟩)), (1, .const (.str ⟨#[103, 105, 118, 101, 110]⟩)), (2, .const (.str ⟨#[98, 97, 99, 107]⟩))], none⟩,
          ⟨some 139, .faddr (.tmp 1) 0, none⟩,
          ⟨some 140, .load (.tmp 139) 1 false .plain, none⟩,
          ⟨some 141, .bin .sub (.tmp 140) (.const (.int .i64 2)), none⟩,
          ⟨some 142, .iaddr 1 (.tmp 138) (.tmp 141), none⟩,
          ⟨some 143, .load (.tmp 142) 1 false .plain, none⟩,
          ⟨some 144, .faddr (.tmp 1) 1, none⟩,
          ⟨some 145, .load (.tmp 144) 1 false .plain, none⟩,
          ⟨some 146, .faddr (.tmp 1) 4, none⟩,
          ⟨some 147, .load (.tmp 146) 1 false .plain, none⟩,
          ⟨some 148, .faddr (.tmp 1) 5, none⟩,
          ⟨some 149, .load (.tmp 148) 1 false .plain, none⟩,
          ⟨some 150, .mov (.tmp 3), none⟩,
          ⟨some 151, .faddr (.tmp 1) 6, none⟩,
          ⟨some 152, .load (.tmp 151) 1 false .plain, none⟩,
          ⟨some 153, .callf (.tmp 150) [false] [.tmp 152], none⟩,
          ⟨some 154, .bslice 1 [.str ⟨#[]⟩] 5 [(0, .tmp 143), (1, .tmp 145), (2, .tmp 147), (3, .tmp 149), (4, .tmp 153)], none⟩,
          ⟨some 155, .call 230 [false, false] [.tmp 154, .const (.str ⟨#[32]⟩)], none⟩,
          ⟨some 156, .bin .add (.tmp 155) (.const (.str ⟨#[10]⟩)), none⟩,
          ⟨some 2, .mov (.tmp 156), none⟩] [0, 0, 2, 6, 15, 31, 0, 64, 0, 256, 0, 1024, 0, 0, 8192, 28672, 65535, 131071, 262143, 524287] [2])
        .ret))
        (.seq (.region [
          ⟨some 158, .bin .eql (.tmp 41) (.const (.int .i64 5)), none⟩,
          ⟨some 157, .mov (.tmp 158), none⟩] [1, 3, 4, 5, 6, 41, 157])
        (.cond (.tmp 157)
          (.seq (.seq (.region [
            ⟨some 159, .mov (.tmp 4), none⟩,
            ⟨some 160, .un .not (.tmp 159), none⟩,
            ⟨some 161, .mov (.tmp 160), none⟩,
            ⟨some 162, .faddr (.tmp 1) 5, some (161, false)⟩,
            ⟨some 163, .load (.tmp 162) 1 false .plain, some (161, false)⟩,
            ⟨some 164, .bin .neq (.tmp 163) (.const (.str ⟨#[]⟩)), some (161, false)⟩,
            ⟨some 165, .pick (.tmp 161) (.const (.bool true)) (.tmp 164), none⟩,
            ⟨some 166, .mov (.tmp 165), none⟩,
            ⟨some 167, .faddr (.tmp 1) 6, some (166, false)⟩,
            ⟨some 168, .load (.tmp 167) 1 false .plain, some (166, false)⟩,
            ⟨some 169, .call 85 [false, false, false] [.tmp 168, .const (.int .i64 0), .const (.int .i64 1000000)], some (166, false)⟩,
            ⟨some 170, .un .not (.tmp 169), some (166, false)⟩,
            ⟨some 171, .pick (.tmp 166) (.const (.bool true)) (.tmp 170), none⟩,
            ⟨some 172, .mov (.tmp 171), none⟩,
            ⟨some 173, .faddr (.tmp 1) 2, some (172, false)⟩,
            ⟨some 174, .load (.tmp 173) 1 false .plain, some (172, false)⟩,
            ⟨some 175, .bin .neq (.tmp 174) (.const (.int .i64 0)), some (172, false)⟩,
            ⟨some 176, .pick (.tmp 172) (.const (.bool true)) (.tmp 175), none⟩,
            ⟨some 177, .mov (.tmp 176), none⟩,
            ⟨some 178, .mov (.tmp 5), some (177, false)⟩,
            ⟨some 179, .un .not (.tmp 178), some (177, false)⟩,
            ⟨some 180, .pick (.tmp 177) (.const (.bool true)) (.tmp 179), none⟩] [1, 3, 180])
          (.cond (.tmp 180)
            (.seq (.region [
              ⟨some 2, .mov (.const (.str ⟨#[]⟩)), none⟩] [2])
            .ret)
            .skip))
          (.seq (.quiet [
            ⟨some 181, .faddr (.tmp 1) 1, none⟩,
            ⟨some 182, .load (.tmp 181) 1 false .plain, none⟩,
            ⟨some 183, .bin .add (.const (.str ⟨#[103, 111, 116, 98, 97, 99, 107, 32]⟩)) (.tmp 182), none⟩,
            ⟨some 184, .bin .add (.tmp 183) (.const (.str ⟨#[32]⟩)), none⟩,
            ⟨some 185, .faddr (.tmp 1) 4, none⟩,
            ⟨some 186, .load (.tmp 185) 1 false .plain, none⟩,
            ⟨some 187, .bin .add (.tmp 184) (.tmp 186), none⟩,
            ⟨some 188, .bin .add (.tmp 187) (.const (.str ⟨#[32]⟩)), none⟩,
            ⟨some 189, .mov (.tmp 3), none⟩,
            ⟨some 190, .faddr (.tmp 1) 6, none⟩,
            ⟨some 191, .load (.tmp 190) 1 false .plain, none⟩,
            ⟨some 192, .callf (.tmp 189) [false] [.tmp 191], none⟩,
            ⟨some 193, .bin .add (.tmp 188) (.tmp 192), none⟩,
            ⟨some 194, .bin .add (.tmp 193) (.const (.str ⟨#[10]⟩)), none⟩,
            ⟨some 2, .mov (.tmp 194), none⟩] [2])
          .ret))
          (.seq (.region [
            ⟨some 196, .bin .eql (.tmp 41) (.const (.int .i64 6)), none⟩,
            ⟨some 195, .mov (.tmp 196), none⟩] [1, 3, 5, 6, 195])
          (.cond (.tmp 195)
            (.seq (.seq (.region [
              ⟨some 197, .faddr (.tmp 1) 2, none⟩,
              ⟨some 198, .load (.tmp 197) 1 false .plain, none⟩,
              ⟨some 199, .call 85 [false, false, false] [.tmp 198, .const (.int .i64 0), .const (.int .i64 1000000)], none⟩,
              ⟨some 200, .un .not (.tmp 199), none⟩,
              ⟨some 201, .mov (.tmp 200), none⟩,
              ⟨some 202, .mov (.tmp 5), some (201, false)⟩,
              ⟨some 203, .un .not (.tmp 202), some (201, false)⟩,
              ⟨some 204, .pick (.tmp 201) (.const (.bool true)) (.tmp 203), none⟩,
              ⟨some 205, .mov (.tmp 204), none⟩,
              ⟨some 206, .mov (.tmp 6), some (205, false)⟩,
              ⟨some 207, .un .not (.tmp 206), some (205, false)⟩,
              ⟨some 208, .pick (.tmp 205) (.const (.bool true)) (.tmp 207), none⟩] [1, 3, 208])
            (.cond (.tmp 208)
              (.seq (.region [
                ⟨some 2, .mov (.const (.str ⟨#[]⟩)), none⟩] [2])
              .ret)
              .skip))
            (.seq (.quiet [
              ⟨some 209, .faddr (.tmp 1) 1, none⟩,
              ⟨some 210, .load (.tmp 209) 1 false .plain, none⟩,
              ⟨some 211, .bin .add (.const (.str ⟨#[104, 101, 114, 101, 32]⟩)) (.tmp 210), none⟩,
              ⟨some 212, .bin .add (.tmp 211) (.const (.str ⟨#[32]⟩)), none⟩,
              ⟨some 213, .mov (.tmp 3), none⟩,
              ⟨some 214, .faddr (.tmp 1) 2, none⟩,
              ⟨some 215, .load (.tmp 214) 1 false .plain, none⟩,
              ⟨some 216, .callf (.tmp 213) [false] [.tmp 215], none⟩,
              ⟨some 217, .bin .add (.tmp 212) (.tmp 216), none⟩,
              ⟨some 218, .bin .add (.tmp 217) (.const (.str ⟨#[10]⟩)), none⟩,
              ⟨some 2, .mov (.tmp 218), none⟩] [2])
            .ret))
            .skip))))))))))
  (.seq (.region [
    ⟨some 2, .mov (.const (.str ⟨#[]⟩)), none⟩] [2])
  .ret))
theorem c218_cut : c218 = ⟨219, [.tmp 2],
  (.seq (.region [
    ⟨some 1, .box (.tmp 0), none⟩,
    ⟨some 2, .mov (.const (.str ⟨#[]⟩)), none⟩] [1])
  (.seq (.region [
    ⟨some 3, .mov (.const (.fn 231)), none⟩] [1, 3])
  (.seq (.region [
    ⟨some 11, .faddr (.tmp 1) 4, none⟩,
    ⟨some 12, .load (.tmp 11) 1 false .plain, none⟩,
    ⟨some 13, .call 105 [false] [.tmp 12], none⟩,
    ⟨some 14, .mov (.tmp 13), none⟩,
    ⟨some 15, .faddr (.tmp 1) 4, some (14, true)⟩,
    ⟨some 16, .load (.tmp 15) 1 false .plain, some (14, true)⟩,
    ⟨some 17, .bin .neq (.tmp 16) (.const (.str ⟨#[42]⟩)), some (14, true)⟩,
    ⟨some 18, .pick (.tmp 14) (.tmp 17) (.const (.bool false)), none⟩,
    ⟨some 4, .mov (.tmp 18), none⟩] [1, 3, 4])
  (.seq (.seq (.region [
    ⟨some 19, .faddr (.tmp 1) 1, none⟩,
    ⟨some 20, .load (.tmp 19) 1 false .plain, none⟩,
    ⟨some 21, .call 105 [false] [.tmp 20], none⟩,
    ⟨some 22, .un .not (.tmp 21), none⟩] [1, 3, 4, 22])
  (.cond (.tmp 22)
    (.seq (.region [
      ⟨some 2, .mov (.const (.str ⟨#[]⟩)), none⟩] [2])
    .ret)
    .skip))
  (.seq (.region [
    ⟨some 23, .faddr (.tmp 1) 3, none⟩,
    ⟨some 24, .load (.tmp 23) 1 false .plain, none⟩,
    ⟨some 25, .len false (.tmp 24), none⟩,
    ⟨some 26, .bin .eql (.tmp 25) (.const (.int .i64 0)), none⟩,
    ⟨some 5, .mov (.tmp 26), none⟩] [1, 3, 4, 5])
  (.seq (.region [
    ⟨some 27, .faddr (.tmp 1) 4, none⟩,
    ⟨some 28, .load (.tmp 27) 1 false .plain, none⟩,
    ⟨some 29, .bin .eql (.tmp 28) (.const (.str ⟨#[]⟩)), none⟩,
    ⟨some 30, .mov (.tmp 29), none⟩,
    ⟨some 31, .faddr (.tmp 1) 5, some (30, true)⟩,
    ⟨some 32, .load (.tmp 31) 1 false .plain, some (30, true)⟩,
    ⟨some 33, .bin .eql (.tmp 32) (.const (.str ⟨#[]⟩)), some (30, true)⟩,
    ⟨some 34, .pick (.tmp 30) (.tmp 33) (.const (.bool false)), none⟩,
    ⟨some 35, .mov (.tmp 34), none⟩,
    ⟨some 36, .faddr (.tmp 1) 6, some (35, true)⟩,
    ⟨some 37, .load (.tmp 36) 1 false .plain, some (35, true)⟩,
    ⟨some 38, .bin .eql (.tmp 37) (.const (.int .i64 0)), some (35, true)⟩,
    ⟨some 39, .pick (.tmp 35) (.tmp 38) (.const (.bool false)), none⟩,
    ⟨some 6, .mov (.tmp 39), none⟩] [1, 3, 4, 5, 6])
  sw218))))))⟩ := rfl

def sw236 : CCode := (.seq (.seq (.region [
    ⟨some 42, .faddr (.tmp 1) 0, none⟩,
    ⟨some 43, .load (.tmp 42) 1 false .plain, none⟩] [1, 3, 43])
  (.block 0
    (.seq (.region [
      ⟨some 45, .bin .eql (.tmp 43) (.const (.int .i64 1)), none⟩,
      ⟨some 44, .mov (.tmp 45), none⟩] [1, 3, 43, 44])
    (.cond (.tmp 44)
      (.seq (.seq (.region [
        ⟨some 46, .faddr (.tmp 1) 3, none⟩,
        ⟨some 47, .load (.tmp 46) 1 false .plain, none⟩,
        ⟨some 48, .call 7 [false] [.tmp 47], none⟩,
        ⟨some 49, .un .not (.tmp 48), none⟩,
        ⟨some 50, .mov (.tmp 49), none⟩,
        ⟨some 51, .faddr (.tmp 1) 2, some (50, false)⟩,
        ⟨some 52, .load (.tmp 51) 1 false .plain, some (50, false)⟩,
        ⟨some 53, .call 102 [false, false, false] [.tmp 52, .const (.int .i64 1), .const (.int .i64 1000000)], some (50, false)⟩,
        ⟨some 54, .un .not (.tmp 53), some (50, false)⟩,
        ⟨some 55, .pick (.tmp 50) (.const (.bool true)) (.tmp 54), none⟩,
        ⟨some 56, .mov (.tmp 55), none⟩,
        ⟨some 57, .faddr (.tmp 1) 4, some (56, false)⟩,
        ⟨some 58, .load (.tmp 57) 1 false .plain, some (56, false)⟩,
        ⟨some 59, .bin .neq (.tmp 58) (.const (.str ⟨#[]⟩)), some (56, false)⟩,
        ⟨some 60, .pick (.tmp 56) (.const (.bool true)) (.tmp 59), none⟩,
        ⟨some 61, .mov (.tmp 60), none⟩,
        ⟨some 62, .faddr (.tmp 1) 5, some (61, false)⟩,
        ⟨some 63, .load (.tmp 62) 1 false .plain, some (61, false)⟩,
        ⟨some 64, .bin .neq (.tmp 63) (.const (.str ⟨#[]⟩)), some (61, false)⟩,
        ⟨some 65, .pick (.tmp 61) (.const (.bool true)) (.tmp 64), none⟩,
        ⟨some 66, .mov (.tmp 65), none⟩,
        ⟨some 67, .faddr (.tmp 1) 6, some (66, false)⟩,
        ⟨some 68, .load (.tmp 67) 1 false .plain, some (66, false)⟩,
        ⟨some 69, .bin .neq (.tmp 68) (.const (.int .i64 0)), some (66, false)⟩,
        ⟨some 70, .pick (.tmp 66) (.const (.bool true)) (.tmp 69), none⟩] [1, 70])
      (.cond (.tmp 70)
        (.seq (.region [
          ⟨some 2, .mov (.const (.str ⟨#[]⟩)), none⟩] [2])
        .ret)
        .skip))
      (.seq (.quiet [
        ⟨some 71, .faddr (.tmp 1) 1, none⟩,
        ⟨some 72, .load (.tmp 71) 1 false .plain, none⟩,
        ⟨some 73, .bin .add (.const (.str ⟨#[116, 111, 108, 100, 32]⟩)) (.tmp 72), none⟩,
        ⟨some 74, .bin .add (.tmp 73) (.const (.str ⟨#[32]⟩)), none⟩,
        ⟨some 75, .faddr (.tmp 1) 2, none⟩,
        ⟨some 76, .load (.tmp 75) 1 false .plain, none⟩,
        ⟨some 77, .call 140 [false] [.tmp 76], none⟩,
        ⟨some 78, .bin .add (.tmp 74) (.tmp 77), none⟩,
        ⟨some 79, .bin .add (.tmp 78) (.const (.str ⟨#[10]⟩)), none⟩,
        ⟨some 4, .mov (.tmp 79), none⟩] [1, 4])
      (.seq (.seq (.region [
        ⟨some 5, .mov (.const (.int .i64 0)), none⟩] [1, 4, 5])
      (.block 1
        (.loop [1, 4, 5] c236b0)))
      (.seq (.region [
        ⟨some 95, .mov (.tmp 4), none⟩,
        ⟨some 2, .mov (.tmp 95), none⟩] [2])
      .ret))))
      (.seq (.seq (.region [
        ⟨some 97, .bin .eql (.tmp 43) (.const (.int .i64 2)), none⟩,
        ⟨some 96, .mov (.tmp 97), none⟩] [1, 3, 43, 96])
      (.cond (.tmp 96)
        .skip
        (.seq (.region [
          ⟨some 98, .bin .eql (.tmp 43) (.const (.int .i64 3)), none⟩,
          ⟨some 96, .mov (.tmp 98), none⟩] [1, 3, 43, 96])
        (.cond (.tmp 96)
          .skip
          (.region [
            ⟨some 99, .bin .eql (.tmp 43) (.const (.int .i64 4)), none⟩,
            ⟨some 96, .mov (.tmp 99), none⟩] [1, 3, 43, 96])))))
      (.cond (.tmp 96)
        (.seq (.region [
          ⟨some 100, .mov (.tmp 3), none⟩,
          ⟨some 101, .mov (.tmp 100), none⟩,
          ⟨some 102, .faddr (.tmp 1) 5, some (101, true)⟩,
          ⟨some 103, .load (.tmp 102) 1 false .plain, some (101, true)⟩,
          ⟨some 104, .call 101 [false] [.tmp 103], some (101, true)⟩,
          ⟨some 105, .pick (.tmp 101) (.tmp 104) (.const (.bool false)), none⟩] [1, 105])
        (.cond (.tmp 105)
          (.seq (.loud [
            ⟨some 106, .bslice 1 [.str ⟨#[]⟩] 3 [(0, .const (.str ⟨#[97, 115, 107, 101, 100, 32]⟩)), (1, .const (.str ⟨#[103, 105, 118, 101, 110, 32]⟩)), (2, .const (.str ⟨#[98, 97, 99, 107, 32]⟩))], none⟩,
            ⟨some 107, .faddr (.tmp 1) 0, none⟩,
            ⟨some 108, .load (.tmp 107) 1 false .plain, none⟩,
            ⟨some 109, .bin .sub (.tmp 108) (.const (.int .i64 2)), none⟩,
            ⟨some 110, .iaddr 1 (.tmp 106) (.tmp 109), none⟩,
            ⟨some 111, .load (.tmp 110) 1 false .plain, none⟩,
            ⟨some 112, .faddr (.tmp 1) 1, none⟩,
            ⟨some 113, .load (.tmp 112) 1 false .plain, none⟩,
            ⟨some 114, .bin .add (.tmp 111) (.tmp 113), none⟩,
            ⟨some 115, .bin .add (.tmp 114) (.const (.str ⟨#[32]⟩)), none⟩,
            ⟨some 116, .faddr (.tmp 1) 4, none⟩,
            ⟨some 117, .load (.tmp 116) 1 false .plain, none⟩,
            ⟨some 118, .bin .add (.tmp 115) (.tmp 117), none⟩,
            ⟨some 119, .bin .add (.tmp 118) (.const (.str ⟨#[32]⟩)), none⟩,
            ⟨some 120, .faddr (.tmp 1) 5, none⟩,
            ⟨some 121, .load (.tmp 120) 1 false .plain, none⟩,
            ⟨some 122, .bin .add (.tmp 119) (.tmp 121), none⟩,
            ⟨some 123, .bin .add (.tmp 122) (.const (.str ⟨#[32]⟩)), none⟩,
            ⟨some 124, .faddr (.tmp 1) 6, none⟩,
            ⟨some 125, .load (.tmp 124) 1 false .plain, none⟩,
            ⟨some 126, .call 140 [false] [.tmp 125], none⟩,
            ⟨some 127, .bin .add (.tmp 123) (.tmp 126), none⟩,
            ⟨some 128, .bin .add (.tmp 127) (.const (.str ⟨#[10]⟩)), none⟩,
            ⟨some 2, .mov (.tmp 128), none⟩] [0, 0, 2, 6, 15, 31, 0, 64, 255, 511, 0, 1024, 4095, 8191, 0, 16384, 65535, 131071, 0, 262144, 786432, 2097151, 4194303, 8388607] [2])
          .ret)
          .skip))
        (.seq (.region [
          ⟨some 130, .bin .eql (.tmp 43) (.const (.int .i64 5)), none⟩,
          ⟨some 129, .mov (.tmp 130), none⟩] [1, 3, 43, 129])
        (.cond (.tmp 129)
          (.seq (.region [
            ⟨some 131, .mov (.tmp 3), none⟩,
            ⟨some 132, .mov (.tmp 131), none⟩,
            ⟨some 133, .faddr (.tmp 1) 5, some (132, true)⟩,
            ⟨some 134, .load (.tmp 133) 1 false .plain, some (132, true)⟩,
            ⟨some 135, .bin .eql (.tmp 134) (.const (.str ⟨#[]⟩)), some (132, true)⟩,
            ⟨some 136, .pick (.tmp 132) (.tmp 135) (.const (.bool false)), none⟩] [1, 136])
          (.cond (.tmp 136)
            (.seq (.quiet [
              ⟨some 137, .faddr (.tmp 1) 1, none⟩,
              ⟨some 138, .load (.tmp 137) 1 false .plain, none⟩,
              ⟨some 139, .bin .add (.const (.str ⟨#[103, 111, 116, 98, 97, 99, 107, 32]⟩)) (.tmp 138), none⟩,
              ⟨some 140, .bin .add (.tmp 139) (.const (.str ⟨#[32]⟩)), none⟩,
              ⟨some 141, .faddr (.tmp 1) 4, none⟩,
              ⟨some 142, .load (.tmp 141) 1 false .plain, none⟩,
              ⟨some 143, .bin .add (.tmp 140) (.tmp 142), none⟩,
              ⟨some 144, .bin .add (.tmp 143) (.const (.str ⟨#[32]⟩)), none⟩,
              ⟨some 145, .faddr (.tmp 1) 6, none⟩,
              ⟨some 146, .load (.tmp 145) 1 false .plain, none⟩,
              ⟨some 147, .call 140 [false] [.tmp 146], none⟩,
              ⟨some 148, .bin .add (.tmp 144) (.tmp 147), none⟩,
              ⟨some 149, .bin .add (.tmp 148) (.const (.str ⟨#[10]⟩)), none⟩,
              ⟨some 2, .mov (.tmp 149), none⟩] [2])
            .ret)
            .skip))
          (.seq (.region [
            ⟨some 151, .bin .eql (.tmp 43) (.const (.int .i64 6)), none⟩,
            ⟨some 150, .mov (.tmp 151), none⟩] [1, 150])
          (.cond (.tmp 150)
            (.seq (.region [
              ⟨some 152, .faddr (.tmp 1) 2, none⟩,
              ⟨some 153, .load (.tmp 152) 1 false .plain, none⟩,
              ⟨some 154, .call 102 [false, false, false] [.tmp 153, .const (.int .i64 0), .const (.int .i64 1000000)], none⟩,
              ⟨some 155, .mov (.tmp 154), none⟩,
              ⟨some 156, .faddr (.tmp 1) 4, some (155, true)⟩,
              ⟨some 157, .load (.tmp 156) 1 false .plain, some (155, true)⟩,
              ⟨some 158, .bin .eql (.tmp 157) (.const (.str ⟨#[]⟩)), some (155, true)⟩,
              ⟨some 159, .pick (.tmp 155) (.tmp 158) (.const (.bool false)), none⟩,
              ⟨some 160, .mov (.tmp 159), none⟩,
              ⟨some 161, .faddr (.tmp 1) 5, some (160, true)⟩,
              ⟨some 162, .load (.tmp 161) 1 false .plain, some (160, true)⟩,
              ⟨some 163, .bin .eql (.tmp 162) (.const (.str ⟨#[]⟩)), some (160, true)⟩,
              ⟨some 164, .pick (.tmp 160) (.tmp 163) (.const (.bool false)), none⟩,
              ⟨some 165, .mov (.tmp 164), none⟩,
              ⟨some 166, .faddr (.tmp 1) 6, some (165, true)⟩,
              ⟨some 167, .load (.tmp 166) 1 false .plain, some (165, true)⟩,
              ⟨some 168, .bin .eql (.tmp 167) (.const (.int .i64 0)), some (165, true)⟩,
              ⟨some 169, .pick (.tmp 165) (.tmp 168) (.const (.bool false)), none⟩] [1, 169])
            (.cond (.tmp 169)
              (.seq (.quiet [
                ⟨some 170, .faddr (.tmp 1) 1, none⟩,
                ⟨some 171, .load (.tmp 170) 1 false .plain, none⟩,
                ⟨some 172, .bin .add (.const (.str ⟨#[104, 101, 114, 101, 32]⟩)) (.tmp 171), none⟩,
                ⟨some 173, .bin .add (.tmp 172) (.const (.str ⟨#[32]⟩)), none⟩,
                ⟨some 174, .faddr (.tmp 1) 2, none⟩,
                ⟨some 175, .load (.tmp 174) 1 false .plain, none⟩,
                ⟨some 176, .call 140 [false] [.tmp 175], none⟩,
                ⟨some 177, .bin .add (.tmp 173) (.tmp 176), none⟩,
                ⟨some 178, .bin .add (.tmp 177) (.const (.str ⟨#[10]⟩)), none⟩,
                ⟨some 2, .mov (.tmp 178), none⟩] [2])
              .ret)
              .skip))
            .skip))))))))))
  (.seq (.region [
    ⟨some 2, .mov (.const (.str ⟨#[]⟩)), none⟩] [2])
  .ret))
theorem c236_cut : c236 = ⟨179, [.tmp 2],
  (.seq (.region [
    ⟨some 1, .box (.tmp 0), none⟩,
    ⟨some 2, .mov (.const (.str ⟨#[]⟩)), none⟩] [1])
  (.seq (.seq (.region [
    ⟨some 6, .faddr (.tmp 1) 1, none⟩,
    ⟨some 7, .load (.tmp 6) 1 false .plain, none⟩,
    ⟨some 8, .call 101 [false] [.tmp 7], none⟩,
    ⟨some 9, .un .not (.tmp 8), none⟩] [1, 9])
  (.cond (.tmp 9)
    (.seq (.region [
      ⟨some 2, .mov (.const (.str ⟨#[]⟩)), none⟩] [2])
    .ret)
    .skip))
  (.seq (.region [
    ⟨some 10, .faddr (.tmp 1) 4, none⟩,
    ⟨some 11, .load (.tmp 10) 1 false .plain, none⟩,
    ⟨some 12, .call 100 [false] [.tmp 11], none⟩,
    ⟨some 13, .mov (.tmp 12), none⟩,
    ⟨some 14, .faddr (.tmp 1) 6, some (13, true)⟩,
    ⟨some 15, .load (.tmp 14) 1 false .plain, some (13, true)⟩,
    ⟨some 16, .call 102 [false, false, false] [.tmp 15, .const (.int .i64 0), .const (.int .i64 1000000)], some (13, true)⟩,
    ⟨some 17, .pick (.tmp 13) (.tmp 16) (.const (.bool false)), none⟩,
    ⟨some 3, .mov (.tmp 17), none⟩] [1, 3])
  (.seq (.seq (.region [
    ⟨some 18, .faddr (.tmp 1) 0, none⟩,
    ⟨some 19, .load (.tmp 18) 1 false .plain, none⟩,
    ⟨some 20, .bin .neq (.tmp 19) (.const (.int .i64 1)), none⟩,
    ⟨some 21, .mov (.tmp 20), none⟩,
    ⟨some 22, .faddr (.tmp 1) 3, some (21, true)⟩,
    ⟨some 23, .load (.tmp 22) 1 false .plain, some (21, true)⟩,
    ⟨some 24, .len false (.tmp 23), some (21, true)⟩,
    ⟨some 25, .bin .gtr (.tmp 24) (.const (.int .i64 0)), some (21, true)⟩,
    ⟨some 26, .pick (.tmp 21) (.tmp 25) (.const (.bool false)), none⟩,
    ⟨some 27, .mov (.tmp 26), none⟩,
    ⟨some 28, .faddr (.tmp 1) 0, some (27, false)⟩,
    ⟨some 29, .load (.tmp 28) 1 false .plain, some (27, false)⟩,
    ⟨some 30, .bin .neq (.tmp 29) (.const (.int .i64 1)), some (27, false)⟩,
    ⟨some 31, .mov (.tmp 30), some (27, false)⟩,
    ⟨some 32, .faddr (.tmp 1) 0, some (31, true)⟩,
    ⟨some 33, .load (.tmp 32) 1 false .plain, some (31, true)⟩,
    ⟨some 34, .bin .neq (.tmp 33) (.const (.int .i64 6)), some (31, true)⟩,
    ⟨some 35, .pick (.tmp 31) (.tmp 34) (.const (.bool false)), some (27, false)⟩,
    ⟨some 36, .mov (.tmp 35), some (27, false)⟩,
    ⟨some 37, .faddr (.tmp 1) 2, some (36, true)⟩,
    ⟨some 38, .load (.tmp 37) 1 false .plain, some (36, true)⟩,
    ⟨some 39, .bin .neq (.tmp 38) (.const (.int .i64 0)), some (36, true)⟩,
    ⟨some 40, .pick (.tmp 36) (.tmp 39) (.const (.bool false)), some (27, false)⟩,
    ⟨some 41, .pick (.tmp 27) (.const (.bool true)) (.tmp 40), none⟩] [1, 3, 41])
  (.cond (.tmp 41)
    (.seq (.region [
      ⟨some 2, .mov (.const (.str ⟨#[]⟩)), none⟩] [2])
    .ret)
    .skip))
  sw236))))⟩ := rfl

def headF (ws : List Want) (i : Nat) (acc : T) : St := hd [(3, .fn 231), (7, .str acc), (69, .sl .bor 7 (ws.map Want.c)), (70, .int .i64 ws.length), (71, .int .i64 i)] [] 0

theorem joinWant (w : Want) (hw : w.fits) : joinT [⟨#[119, 97, 110, 116]⟩, w.copy, itoaT w.version, starOr w.hold, itoaT w.pull, itoaT w.start, itoaT w.dies, itoaT w.grace] ⟨#[32]⟩ ++ ⟨#[10]⟩ = formWant w := by
  rw [itoa_dec hw.version.1, itoa_dec hw.pull.1, itoa_dec hw.start.1, itoa_dec hw.dies.1, itoa_dec hw.grace.1]
  apply text_ext
  simp [joinT, formWant, Lib.join_cons, Lib.joinTail]

theorem joinHold (wd b h c : T) (n : Int) (h1 : wd.size ≤ 20) (h2 : b.size ≤ 20) (h3 : h.size ≤ 20) (h4 : c.size ≤ 20) (n0 : 0 ≤ n) (n1 : n ≤ 1000000) :
    joinT [wd, b, h, c, itoaT n] ⟨#[32]⟩ ++ ⟨#[10]⟩ = wd ++ ⟨#[32]⟩ ++ b ++ ⟨#[32]⟩ ++ h ++ ⟨#[32]⟩ ++ c ++ ⟨#[32]⟩ ++ dec n.toNat ++ ⟨#[10]⟩ ∧ (joinT [wd, b, h, c, itoaT n] ⟨#[32]⟩).size ≤ 200 := by
  have hd := (law140' n n0 n1).2
  have e : joinT [wd, b, h, c, itoaT n] ⟨#[32]⟩ ++ ⟨#[10]⟩ = wd ++ ⟨#[32]⟩ ++ b ++ ⟨#[32]⟩ ++ h ++ ⟨#[32]⟩ ++ c ++ ⟨#[32]⟩ ++ dec n.toNat ++ ⟨#[10]⟩ := by
    rw [itoa_dec n0]
    apply text_ext
    simp [joinT, Lib.join_cons, Lib.joinTail]
  refine ⟨e, ?_⟩
  have hs := congrArg ByteArray.size e
  simp only [app_size] at hs
  have z1 : (⟨#[32]⟩ : T).size = 1 := rfl
  have z2 : (⟨#[10]⟩ : T).size = 1 := rfl
  omega

theorem form_loop {fs : List Fr} (ws : List Want) (acc : T) (hl : ws.length ≤ 1048576) (hok : ∀ w ∈ ws, wantOk w = true) (ha : acc.size ≤ 1000) (s : St) (hs : s.norm [3, 7, 69, 70, 71] = headF ws 0 acc) (hf : ∀ (r : T) (s' : St), s'.slots 7 = .str r → s'.heap = (fun _ => none) → s'.base = 0 → fin [.tmp 2] 0 (X F fs (.exit 1, s')) = some (.str r, [])) :
    fin [.tmp 2] 0 (X F (.code (.loop [3, 7, 69, 70, 71] c218b0) :: fs) (.normal, s)) = some (.str (formWants acc ws), []) := by
  refine (loop_list ws (fun i (acc : T) => headF ws i acc) (fun i acc => acc.size ≤ 1000 + 90 * i) (fun _ r acc => (.str (formWants acc r), [])) (fun acc Y hinv => ?_) (fun i w r acc Y hw hi hr hinv hY => ?_) acc hs (by simpa using ha) ?_).trans rfl
  · simp [headF, c218b0, formWants]
    exact hf acc _ (by simp) rfl rfl
  · have hw1 : IntKind.i64.wrap ((i : Int) + 1) = (i : Int) + 1 := i64w (by omega) (by omega)
    obtain ⟨_, hg⟩ := List.getElem?_eq_some_iff.1 hw
    have hiI : (i : Int) < ws.length := by omega
    have hwk := hok w (List.mem_of_getElem? hw)
    have hfit := wantOk_fits hwk
    have hstar := wantOk_star hwk
    have hj := joinWant w hfit
    have hfs := formWant_size hfit
    have hjs : (joinT [⟨#[119, 97, 110, 116]⟩, w.copy, itoaT w.version, starOr w.hold, itoaT w.pull, itoaT w.start, itoaT w.dies, itoaT w.grace] ⟨#[32]⟩).size + (⟨#[10]⟩ : T).size ≤ 90 := by
      rw [← app_size, hj]; exact hfs
    have a1 := law231 w.version (by have := hfit.version; omega) (by have := hfit.version; omega)
    have a2 := law231 w.pull (by have := hfit.pull; omega) (by have := hfit.pull; omega)
    have a3 := law231 w.start (by have := hfit.start; omega) (by have := hfit.start; omega)
    have a4 := law231 w.dies (by have := hfit.dies; omega) (by have := hfit.dies; omega)
    have a5 := law231 w.grace (by have := hfit.grace; omega) (by have := hfit.grace; omega)
    have hjl := law230 [⟨#[119, 97, 110, 116]⟩, w.copy, itoaT w.version, starOr w.hold, itoaT w.pull, itoaT w.start, itoaT w.dies, itoaT w.grace] ⟨#[32]⟩ (by simp) (by omega)
    simp only [List.map_cons, List.map_nil] at hjl
    have e1 : (joinT [⟨#[119, 97, 110, 116]⟩, w.copy, itoaT w.version, starOr w.hold, itoaT w.pull, itoaT w.start, itoaT w.dies, itoaT w.grace] ⟨#[32]⟩).size + (⟨#[10]⟩ : T).size ≤ 9223372036854775807 := by omega
    have e2 : acc.size + (formWant w).size ≤ 9223372036854775807 := by omega
    have hY' := fun s' h => hY (acc ++ formWant w) s' (by rw [app_size]; omega) h
    simp only [formWants]
    have hst : starOr w.hold = if sEq w.hold ⟨#[]⟩ then ⟨#[42]⟩ else w.hold := rfl
    cases q : sEq w.hold ⟨#[]⟩
    · rw [q] at hst
      simp only [Bool.false_eq_true, if_false] at hst
      rw [hst] at hj hjl e1
      simp [headF, c218b0, hiI, hi, hg, hstar, q, a1, a2, a3, a4, a5, hjl, e1, hj, e2]
      exact hY' _ (by simp [headF, hw1])
    · rw [q] at hst
      simp only [if_true] at hst
      rw [hst] at hj hjl e1
      simp [headF, c218b0, hiI, hi, hg, hstar, q, a1, a2, a3, a4, a5, hjl, e1, hj, e2]
      exact hY' _ (by simp [headF, hw1])
  · unfold big; omega

theorem form218 (p : Parcel) (h nh : Bool) (hs : p.small) (hb : isName p.berth = true) (hh : h = true → isName p.hold = true) (s : St) (n : Nat) (s1 : s.slots 1 = .ptr 0 0 0) (s3 : s.slots 3 = .fn 231) (s4 : s.slots 4 = .bool h) (s5 : s.slots 5 = .bool p.wants.isEmpty) (s6 : s.slots 6 = .bool nh)
    (h0 : s.heap 0 = some (.box (p.c .bor))) (hn : s.next = n + 1) (hba : s.base = 0) : fin [.tmp 2] 0 (X F [.code sw218] (.normal, s)) = some (.str (formSw p h nh), []) := by
  have hbs := isName_size hb
  by_cases k1 : p.kind = 1
  · cases q1 : inR p.seen 1 1000000
    · simp [sw218, formSw, s1, s3, s4, s5, s6, h0, hn, hba, k1, q1]
    have w2 := law6 p.wants (by have := hs.wants; unfold big; omega)
    cases q2 : wantsOk p.wants
    · simp [sw218, formSw, s1, s3, s4, s5, s6, h0, hn, hba, k1, q1, q2, w2]
    cases nh
    · simp [sw218, formSw, s1, s3, s4, s5, s6, h0, hn, hba, k1, q1, q2, w2]
    obtain ⟨r1, r2⟩ := inR_le q1
    have a1 := law231 p.seen (by omega) (by omega)
    rw [itoa_dec (by omega)] at a1
    have b1 := (law140' p.seen (by omega) (by omega)).2
    have z1 : (⟨#[116, 111, 108, 100, 32]⟩ : T).size = 5 := rfl
    have z2 : (⟨#[32]⟩ : T).size = 1 := rfl
    have z3 : (⟨#[10]⟩ : T).size = 1 := rfl
    have y2 : (⟨#[116, 111, 108, 100, 32]⟩ : T).size + (p.berth).size ≤ 9223372036854775807 := by omega
    have y3 : (⟨#[116, 111, 108, 100, 32]⟩ : T).size + (p.berth).size + (⟨#[32]⟩ : T).size ≤ 9223372036854775807 := by omega
    have y4 : (⟨#[116, 111, 108, 100, 32]⟩ : T).size + (p.berth).size + (⟨#[32]⟩ : T).size + (dec p.seen.toNat).size ≤ 9223372036854775807 := by omega
    have y5 : (⟨#[116, 111, 108, 100, 32]⟩ : T).size + (p.berth).size + (⟨#[32]⟩ : T).size + (dec p.seen.toNat).size + (⟨#[10]⟩ : T).size ≤ 9223372036854775807 := by omega
    simp [sw218, formSw, s1, s3, s4, s5, s6, h0, hn, hba, k1, q1, q2, w2, a1, y2, y3, y4, y5]
    refine form_loop p.wants (toldHead p) hs.wants (fun w hw => ((wantsOk_iff _).1 q2).2.1 w hw) ?_ _ ?_ (fun r s' h7 hh hb => ?_)
    · unfold toldHead
      simp only [app_size]
      omega
    · simp [headF, toldHead]
    · simp [h7, hh, hb]
  by_cases k2 : p.kind = 2
  · cases h
    · simp [sw218, formSw, s1, s3, s4, s5, s6, h0, hn, hba, k1, k2]
    have hhs := isName_size (hh rfl)
    cases q1 : isName p.copy
    · simp [sw218, formSw, s1, s3, s4, s5, s6, h0, hn, hba, k1, k2, q1]
    have hcs := isName_size q1
    cases q2 : inR p.at_ 0 1000000
    · simp [sw218, formSw, s1, s3, s4, s5, s6, h0, hn, hba, k1, k2, q1, q2]
    by_cases q3 : p.seen = 0
    case neg => simp [sw218, formSw, s1, s3, s4, s5, s6, h0, hn, hba, k1, k2, q1, q2, q3]
    cases q4 : p.wants.isEmpty
    · simp [sw218, formSw, s1, s3, s4, s5, s6, h0, hn, hba, k1, k2, q1, q2, q3, q4]
    obtain ⟨r1, r2⟩ := inR_le q2
    have a1 := law231 p.at_ (by omega) (by omega)
    have b1 := (law140' p.at_ (by omega) (by omega)).2
    obtain ⟨hj, hz⟩ := joinHold (⟨#[97, 115, 107, 101, 100]⟩) p.berth p.hold p.copy p.at_ (by decide) hbs hhs hcs r1 r2
    have hjl := law230 [⟨#[97, 115, 107, 101, 100]⟩, p.berth, p.hold, p.copy, itoaT p.at_] ⟨#[32]⟩ (by simp) (by omega)
    simp only [List.map_cons, List.map_nil] at hjl
    have e1 : (joinT [⟨#[97, 115, 107, 101, 100]⟩, p.berth, p.hold, p.copy, itoaT p.at_] ⟨#[32]⟩).size + (⟨#[10]⟩ : T).size ≤ 9223372036854775807 := by
      have : (⟨#[10]⟩ : T).size = 1 := rfl
      omega
    have u0 : IntKind.i64.wrap 0 = 0 := by decide
    have u1 : IntKind.i64.wrap 1 = 1 := by decide
    have u2 : IntKind.i64.wrap 2 = 2 := by decide
    simp [sw218, formSw, s1, s3, s4, s5, s6, h0, hn, hba, k1, k2, q1, q2, q3, q4, a1, hjl, e1, hj, word, u0, u1, u2]
    exact text_ext (by simp)
  by_cases k3 : p.kind = 3
  · cases h
    · simp [sw218, formSw, s1, s3, s4, s5, s6, h0, hn, hba, k1, k2, k3]
    have hhs := isName_size (hh rfl)
    cases q1 : isName p.copy
    · simp [sw218, formSw, s1, s3, s4, s5, s6, h0, hn, hba, k1, k2, k3, q1]
    have hcs := isName_size q1
    cases q2 : inR p.at_ 0 1000000
    · simp [sw218, formSw, s1, s3, s4, s5, s6, h0, hn, hba, k1, k2, k3, q1, q2]
    by_cases q3 : p.seen = 0
    case neg => simp [sw218, formSw, s1, s3, s4, s5, s6, h0, hn, hba, k1, k2, k3, q1, q2, q3]
    cases q4 : p.wants.isEmpty
    · simp [sw218, formSw, s1, s3, s4, s5, s6, h0, hn, hba, k1, k2, k3, q1, q2, q3, q4]
    obtain ⟨r1, r2⟩ := inR_le q2
    have a1 := law231 p.at_ (by omega) (by omega)
    have b1 := (law140' p.at_ (by omega) (by omega)).2
    obtain ⟨hj, hz⟩ := joinHold (⟨#[103, 105, 118, 101, 110]⟩) p.berth p.hold p.copy p.at_ (by decide) hbs hhs hcs r1 r2
    have hjl := law230 [⟨#[103, 105, 118, 101, 110]⟩, p.berth, p.hold, p.copy, itoaT p.at_] ⟨#[32]⟩ (by simp) (by omega)
    simp only [List.map_cons, List.map_nil] at hjl
    have e1 : (joinT [⟨#[103, 105, 118, 101, 110]⟩, p.berth, p.hold, p.copy, itoaT p.at_] ⟨#[32]⟩).size + (⟨#[10]⟩ : T).size ≤ 9223372036854775807 := by
      have : (⟨#[10]⟩ : T).size = 1 := rfl
      omega
    have u0 : IntKind.i64.wrap 0 = 0 := by decide
    have u1 : IntKind.i64.wrap 1 = 1 := by decide
    have u2 : IntKind.i64.wrap 2 = 2 := by decide
    simp [sw218, formSw, s1, s3, s4, s5, s6, h0, hn, hba, k1, k2, k3, q1, q2, q3, q4, a1, hjl, e1, hj, word, u0, u1, u2]
    exact text_ext (by simp)
  by_cases k4 : p.kind = 4
  · cases h
    · simp [sw218, formSw, s1, s3, s4, s5, s6, h0, hn, hba, k1, k2, k3, k4]
    have hhs := isName_size (hh rfl)
    cases q1 : isName p.copy
    · simp [sw218, formSw, s1, s3, s4, s5, s6, h0, hn, hba, k1, k2, k3, k4, q1]
    have hcs := isName_size q1
    cases q2 : inR p.at_ 0 1000000
    · simp [sw218, formSw, s1, s3, s4, s5, s6, h0, hn, hba, k1, k2, k3, k4, q1, q2]
    by_cases q3 : p.seen = 0
    case neg => simp [sw218, formSw, s1, s3, s4, s5, s6, h0, hn, hba, k1, k2, k3, k4, q1, q2, q3]
    cases q4 : p.wants.isEmpty
    · simp [sw218, formSw, s1, s3, s4, s5, s6, h0, hn, hba, k1, k2, k3, k4, q1, q2, q3, q4]
    obtain ⟨r1, r2⟩ := inR_le q2
    have a1 := law231 p.at_ (by omega) (by omega)
    have b1 := (law140' p.at_ (by omega) (by omega)).2
    obtain ⟨hj, hz⟩ := joinHold (⟨#[98, 97, 99, 107]⟩) p.berth p.hold p.copy p.at_ (by decide) hbs hhs hcs r1 r2
    have hjl := law230 [⟨#[98, 97, 99, 107]⟩, p.berth, p.hold, p.copy, itoaT p.at_] ⟨#[32]⟩ (by simp) (by omega)
    simp only [List.map_cons, List.map_nil] at hjl
    have e1 : (joinT [⟨#[98, 97, 99, 107]⟩, p.berth, p.hold, p.copy, itoaT p.at_] ⟨#[32]⟩).size + (⟨#[10]⟩ : T).size ≤ 9223372036854775807 := by
      have : (⟨#[10]⟩ : T).size = 1 := rfl
      omega
    have u0 : IntKind.i64.wrap 0 = 0 := by decide
    have u1 : IntKind.i64.wrap 1 = 1 := by decide
    have u2 : IntKind.i64.wrap 2 = 2 := by decide
    simp [sw218, formSw, s1, s3, s4, s5, s6, h0, hn, hba, k1, k2, k3, k4, q1, q2, q3, q4, a1, hjl, e1, hj, word, u0, u1, u2]
    exact text_ext (by simp)
  by_cases k5 : p.kind = 5
  · cases h
    · simp [sw218, formSw, s1, s3, s4, s5, s6, h0, hn, hba, k1, k2, k3, k4, k5]
    have hhs := isName_size (hh rfl)
    cases q1 : sEq p.copy ⟨#[]⟩
    · simp [sw218, formSw, s1, s3, s4, s5, s6, h0, hn, hba, k1, k2, k3, k4, k5, q1]
    cases q2 : inR p.at_ 0 1000000
    · simp [sw218, formSw, s1, s3, s4, s5, s6, h0, hn, hba, k1, k2, k3, k4, k5, q1, q2]
    by_cases q3 : p.seen = 0
    case neg => simp [sw218, formSw, s1, s3, s4, s5, s6, h0, hn, hba, k1, k2, k3, k4, k5, q1, q2, q3]
    cases q4 : p.wants.isEmpty
    · simp [sw218, formSw, s1, s3, s4, s5, s6, h0, hn, hba, k1, k2, k3, k4, k5, q1, q2, q3, q4]
    obtain ⟨r1, r2⟩ := inR_le q2
    have a1 := law231 p.at_ (by omega) (by omega)
    rw [itoa_dec r1] at a1
    have b1 := (law140' p.at_ (by omega) (by omega)).2
    have z1 : (⟨#[103, 111, 116, 98, 97, 99, 107, 32]⟩ : T).size = 8 := rfl
    have z2 : (⟨#[32]⟩ : T).size = 1 := rfl
    have z3 : (⟨#[10]⟩ : T).size = 1 := rfl
    have y2 : (⟨#[103, 111, 116, 98, 97, 99, 107, 32]⟩ : T).size + (p.berth).size ≤ 9223372036854775807 := by omega
    have y3 : (⟨#[103, 111, 116, 98, 97, 99, 107, 32]⟩ : T).size + (p.berth).size + (⟨#[32]⟩ : T).size ≤ 9223372036854775807 := by omega
    have y4 : (⟨#[103, 111, 116, 98, 97, 99, 107, 32]⟩ : T).size + (p.berth).size + (⟨#[32]⟩ : T).size + (p.hold).size ≤ 9223372036854775807 := by omega
    have y5 : (⟨#[103, 111, 116, 98, 97, 99, 107, 32]⟩ : T).size + (p.berth).size + (⟨#[32]⟩ : T).size + (p.hold).size + (⟨#[32]⟩ : T).size ≤ 9223372036854775807 := by omega
    have y6 : (⟨#[103, 111, 116, 98, 97, 99, 107, 32]⟩ : T).size + (p.berth).size + (⟨#[32]⟩ : T).size + (p.hold).size + (⟨#[32]⟩ : T).size + (dec p.at_.toNat).size ≤ 9223372036854775807 := by omega
    have y7 : (⟨#[103, 111, 116, 98, 97, 99, 107, 32]⟩ : T).size + (p.berth).size + (⟨#[32]⟩ : T).size + (p.hold).size + (⟨#[32]⟩ : T).size + (dec p.at_.toNat).size + (⟨#[10]⟩ : T).size ≤ 9223372036854775807 := by omega
    simp [sw218, formSw, s1, s3, s4, s5, s6, h0, hn, hba, k1, k2, k3, k4, k5, q1, q2, q3, q4, a1, y2, y3, y4, y5, y6, y7]
  by_cases k6 : p.kind = 6
  · cases q1 : inR p.seen 0 1000000
    · simp [sw218, formSw, s1, s3, s4, s5, s6, h0, hn, hba, k1, k2, k3, k4, k5, k6, q1]
    cases q4 : p.wants.isEmpty
    · simp [sw218, formSw, s1, s3, s4, s5, s6, h0, hn, hba, k1, k2, k3, k4, k5, k6, q1, q4]
    cases nh
    · simp [sw218, formSw, s1, s3, s4, s5, s6, h0, hn, hba, k1, k2, k3, k4, k5, k6, q1, q4]
    obtain ⟨r1, r2⟩ := inR_le q1
    have a1 := law231 p.seen (by omega) (by omega)
    rw [itoa_dec r1] at a1
    have b1 := (law140' p.seen (by omega) (by omega)).2
    have z1 : (⟨#[104, 101, 114, 101, 32]⟩ : T).size = 5 := rfl
    have z2 : (⟨#[32]⟩ : T).size = 1 := rfl
    have z3 : (⟨#[10]⟩ : T).size = 1 := rfl
    have y2 : (⟨#[104, 101, 114, 101, 32]⟩ : T).size + (p.berth).size ≤ 9223372036854775807 := by omega
    have y3 : (⟨#[104, 101, 114, 101, 32]⟩ : T).size + (p.berth).size + (⟨#[32]⟩ : T).size ≤ 9223372036854775807 := by omega
    have y4 : (⟨#[104, 101, 114, 101, 32]⟩ : T).size + (p.berth).size + (⟨#[32]⟩ : T).size + (dec p.seen.toNat).size ≤ 9223372036854775807 := by omega
    have y5 : (⟨#[104, 101, 114, 101, 32]⟩ : T).size + (p.berth).size + (⟨#[32]⟩ : T).size + (dec p.seen.toNat).size + (⟨#[10]⟩ : T).size ≤ 9223372036854775807 := by omega
    simp [sw218, formSw, s1, s3, s4, s5, s6, h0, hn, hba, k1, k2, k3, k4, k5, k6, q1, q4, a1, y2, y3, y4, y5]
  · simp [sw218, formSw, s1, s3, s4, s5, s6, h0, hn, hba, k1, k2, k3, k4, k5, k6]

theorem law218 (p : Parcel) (hs : p.small) : F 218 [.agg (p.c .bor)] [] = some (.str (parcelForm p), []) := by
  refine F_run fn218 rfl ?_
  unfold parcelForm
  rw [c218_cut]
  have hz : ((p.wants.length : Int) == 0) = p.wants.isEmpty := by
    cases p.wants with
    | nil => rfl
    | cons x xs =>
      have : ¬ (((x :: xs).length : Int) = 0) := by simp; omega
      simpa using this
  cases qb : isName p.berth
  · cases qh : isName p.hold
    · simp [qb, qh]
    · simp [qb, qh]
  have key : ∀ (h nh : Bool) (s : St) (n : Nat), h = isHold p.hold → nh = noHold p → s.slots 1 = .ptr 0 0 0 → s.slots 3 = .fn 231 → s.slots 4 = .bool h → s.slots 5 = .bool p.wants.isEmpty → s.slots 6 = .bool nh → s.heap 0 = some (.box (p.c .bor)) → s.next = n + 1 → s.base = 0 →
      fin [.tmp 2] 0 (X F [.code sw218] (.normal, s)) = some (.str (formSw p (isHold p.hold) (noHold p)), []) := fun h nh s n e1 e2 s1 s3 s4 s5 s6 h0 hn hba => by
    subst e1; subst e2
    exact form218 p _ _ hs qb (fun e => by simp only [isHold, Bool.and_eq_true] at e; exact e.1) s n s1 s3 s4 s5 s6 h0 hn hba
  cases qh : isName p.hold
  · have eh : isHold p.hold = false := by simp [isHold, qh]
    cases e1 : sEq p.hold ⟨#[]⟩
    · have en : noHold p = false := by simp [noHold, e1]
      simp [qb, qh, e1, hz]
      exact key false false _ _ eh.symm en.symm (by simp) (by simp) (by simp) (by simp) (by simp) (by simp) rfl rfl
    cases e2 : sEq p.copy ⟨#[]⟩
    · have en : noHold p = false := by simp [noHold, e1, e2]
      simp [qb, qh, e1, e2, hz]
      exact key false false _ _ eh.symm en.symm (by simp) (by simp) (by simp) (by simp) (by simp) (by simp) rfl rfl
    by_cases e3 : p.at_ = 0
    · have en : noHold p = true := by simp [noHold, e1, e2, e3]
      simp [qb, qh, e1, e2, e3, hz]
      exact key false true _ _ eh.symm en.symm (by simp) (by simp) (by simp) (by simp) (by simp) (by simp [e3]) rfl rfl
    · have en : noHold p = false := by simp [noHold, e1, e2, e3]
      simp [qb, qh, e1, e2, e3, hz]
      exact key false false _ _ eh.symm en.symm (by simp) (by simp) (by simp) (by simp) (by simp [e3]) (by simp) rfl rfl
  cases qs : sEq p.hold ⟨#[42]⟩
  · have eh : isHold p.hold = true := by simp [isHold, qh, qs]
    cases e1 : sEq p.hold ⟨#[]⟩
    · have en : noHold p = false := by simp [noHold, e1]
      simp [qb, qh, qs, e1, hz]
      exact key true false _ _ eh.symm en.symm (by simp) (by simp) (by simp) (by simp) (by simp) (by simp) rfl rfl
    cases e2 : sEq p.copy ⟨#[]⟩
    · have en : noHold p = false := by simp [noHold, e1, e2]
      simp [qb, qh, qs, e1, e2, hz]
      exact key true false _ _ eh.symm en.symm (by simp) (by simp) (by simp) (by simp) (by simp) (by simp) rfl rfl
    by_cases e3 : p.at_ = 0
    · have en : noHold p = true := by simp [noHold, e1, e2, e3]
      simp [qb, qh, qs, e1, e2, e3, hz]
      exact key true true _ _ eh.symm en.symm (by simp) (by simp) (by simp) (by simp) (by simp) (by simp [e3]) rfl rfl
    · have en : noHold p = false := by simp [noHold, e1, e2, e3]
      simp [qb, qh, qs, e1, e2, e3, hz]
      exact key true false _ _ eh.symm en.symm (by simp) (by simp) (by simp) (by simp) (by simp [e3]) (by simp) rfl rfl
  · have eh : isHold p.hold = false := by simp [isHold, qh, qs]
    cases e1 : sEq p.hold ⟨#[]⟩
    · have en : noHold p = false := by simp [noHold, e1]
      simp [qb, qh, qs, e1, hz]
      exact key false false _ _ eh.symm en.symm (by simp) (by simp) (by simp) (by simp) (by simp) (by simp) rfl rfl
    cases e2 : sEq p.copy ⟨#[]⟩
    · have en : noHold p = false := by simp [noHold, e1, e2]
      simp [qb, qh, qs, e1, e2, hz]
      exact key false false _ _ eh.symm en.symm (by simp) (by simp) (by simp) (by simp) (by simp) (by simp) rfl rfl
    by_cases e3 : p.at_ = 0
    · have en : noHold p = true := by simp [noHold, e1, e2, e3]
      simp [qb, qh, qs, e1, e2, e3, hz]
      exact key false true _ _ eh.symm en.symm (by simp) (by simp) (by simp) (by simp) (by simp) (by simp [e3]) rfl rfl
    · have en : noHold p = false := by simp [noHold, e1, e2, e3]
      simp [qb, qh, qs, e1, e2, e3, hz]
      exact key false false _ _ eh.symm en.symm (by simp) (by simp) (by simp) (by simp) (by simp [e3]) (by simp) rfl rfl

def headG (p : Parcel) (i : Nat) (acc : T) : St := hd [(1, .ptr 0 0 0), (4, .str acc), (5, .int .i64 i)] [.box (p.c .bor)] 0

theorem form_loop2 {fs : List Fr} (p : Parcel) (acc : T) (hl : p.wants.length ≤ 1048576) (hok : ∀ w ∈ p.wants, wantOk w = true) (ha : acc.size ≤ 1000) (s : St) (hs : s.norm [1, 4, 5] = headG p 0 acc) (hf : ∀ (r : T) (s' : St), s'.slots 4 = .str r → s'.base = 0 → fin [.tmp 2] 0 (X F fs (.exit 1, s')) = some (.str r, [])) :
    fin [.tmp 2] 0 (X F (.code (.loop [1, 4, 5] c236b0) :: fs) (.normal, s)) = some (.str (formWants acc p.wants), []) := by
  refine (loop_list p.wants (fun i (acc : T) => headG p i acc) (fun i acc => acc.size ≤ 1000 + 90 * i) (fun _ r acc => (.str (formWants acc r), [])) (fun acc Y hinv => ?_) (fun i w r acc Y hw hi hr hinv hY => ?_) acc hs (by simpa using ha) ?_).trans rfl
  · simp [headG, c236b0, formWants]
    exact hf acc _ (by simp) rfl
  · have hw1 : IntKind.i64.wrap ((i : Int) + 1) = (i : Int) + 1 := i64w (by omega) (by omega)
    obtain ⟨_, hg⟩ := List.getElem?_eq_some_iff.1 hw
    have hiI : (i : Int) < p.wants.length := by omega
    have hfit := wantOk_fits (hok w (List.mem_of_getElem? hw))
    have hfs := formWant_size hfit
    have a1 := law240 w hfit
    simp only [Want.c] at a1
    have e2 : acc.size + (formWant w).size ≤ 9223372036854775807 := by omega
    have hY' := fun s' h => hY (acc ++ formWant w) s' (by rw [app_size]; omega) h
    simp only [formWants]
    simp [headG, c236b0, hiI, hi, hg, a1, e2]
    exact hY' _ (by simp [headG, hw1])
  · unfold big; omega

theorem law236 (p : Parcel) (hs : p.small) : F 236 [.agg (p.c .bor)] [] = some (.str (parcelForm p), []) := by
  refine F_run fn236 rfl ?_
  unfold parcelForm
  have hz : p.wants ≠ [] → (0 : Int) < p.wants.length := fun h => by
    have := List.length_pos_iff.2 h
    omega
  cases qb : isName p.berth
  · simp [c236, qb]
  have hbs := isName_size qb
  have tail : ∀ (h : Bool), h = (isHold p.hold && inR p.at_ 0 1000000) → ∀ (s : St) (n : Nat), s.slots 1 = .ptr 0 0 0 → s.slots 3 = .bool h → s.heap 0 = some (.box (p.c .bor)) → s.next = n + 1 → s.base = 0 → (p.kind ≠ 1 → p.wants.isEmpty = true) → (p.kind ≠ 1 → p.kind ≠ 6 → p.seen = 0) →
      fin [.tmp 2] 0 (X F [.code sw236] (.normal, s)) = some (.str (formSw p (isHold p.hold) (noHold p)), []) := by
    intro h eh s n s1 s3 h0 hn hba g1 g2
    by_cases k1 : p.kind = 1
    · have w2 := law7 p.wants (by have := hs.wants; unfold big; omega)
      cases q2 : wantsOk p.wants
      · simp [sw236, formSw, s1, s3, h0, hn, hba, k1, q2, w2]
      cases q1 : inR p.seen 1 1000000
      · simp [sw236, formSw, s1, s3, h0, hn, hba, k1, q1, q2, w2]
      cases e1 : sEq p.hold ⟨#[]⟩
      · have en : noHold p = false := by simp [noHold, e1]
        simp [sw236, formSw, s1, s3, h0, hn, hba, k1, q1, q2, w2, e1, en]
      cases e2 : sEq p.copy ⟨#[]⟩
      · have en : noHold p = false := by simp [noHold, e1, e2]
        simp [sw236, formSw, s1, s3, h0, hn, hba, k1, q1, q2, w2, e1, e2, en]
      by_cases e3 : p.at_ = 0
      case neg =>
        have en : noHold p = false := by simp [noHold, e1, e2, e3]
        simp [sw236, formSw, s1, s3, h0, hn, hba, k1, q1, q2, w2, e1, e2, e3, en]
      have en : noHold p = true := by simp [noHold, e1, e2, e3]
      obtain ⟨r1, r2⟩ := inR_le q1
      obtain ⟨a1, b1⟩ := law140' p.seen (by omega) (by omega)
      have z1 : (⟨#[116, 111, 108, 100, 32]⟩ : T).size = 5 := rfl
      have z2 : (⟨#[32]⟩ : T).size = 1 := rfl
      have z3 : (⟨#[10]⟩ : T).size = 1 := rfl
      have y2 : (⟨#[116, 111, 108, 100, 32]⟩ : T).size + (p.berth).size ≤ 9223372036854775807 := by omega
      have y3 : (⟨#[116, 111, 108, 100, 32]⟩ : T).size + (p.berth).size + (⟨#[32]⟩ : T).size ≤ 9223372036854775807 := by omega
      have y4 : (⟨#[116, 111, 108, 100, 32]⟩ : T).size + (p.berth).size + (⟨#[32]⟩ : T).size + (dec p.seen.toNat).size ≤ 9223372036854775807 := by omega
      have y5 : (⟨#[116, 111, 108, 100, 32]⟩ : T).size + (p.berth).size + (⟨#[32]⟩ : T).size + (dec p.seen.toNat).size + (⟨#[10]⟩ : T).size ≤ 9223372036854775807 := by omega
      simp [sw236, formSw, s1, s3, h0, hn, hba, k1, q1, q2, w2, e1, e2, e3, en, a1, y2, y3, y4, y5]
      refine form_loop2 p (toldHead p) hs.wants (fun w hw => ((wantsOk_iff _).1 q2).2.1 w hw) ?_ _ ?_ (fun r s' h7 hb => ?_)
      · unfold toldHead
        simp only [app_size]
        omega
      · simp [headG, toldHead, h0]
      · simp [h7, hb]
    have g1 := g1 k1
    by_cases k2 : p.kind = 2
    · have g2 := g2 k1 (by omega)
      cases q0 : h
      · have e0 : (isHold p.hold && inR p.at_ 0 1000000) = false := by rw [← eh, q0]
        simp [sw236, formSw, s1, s3, h0, hn, hba, k1, k2, q0]
        intro u1 u2 u3
        rw [u1, u3] at e0
        cases e0
      rw [q0] at eh
      obtain ⟨q1, q2⟩ := Bool.and_eq_true_iff.1 eh.symm
      have hhs := isName_size (by simp only [isHold, Bool.and_eq_true] at q1; exact q1.1)
      cases q3 : isName p.copy
      · simp [sw236, formSw, s1, s3, h0, hn, hba, k1, k2, q0, q1, q2, q3]
      have hcs := isName_size q3
      obtain ⟨r1, r2⟩ := inR_le q2
      obtain ⟨a1, b1⟩ := law140' p.at_ (by omega) (by omega)
      have u0 : IntKind.i64.wrap 0 = 0 := by decide
      have u1 : IntKind.i64.wrap 1 = 1 := by decide
      have u2 : IntKind.i64.wrap 2 = 2 := by decide
      have z1 : (⟨#[97, 115, 107, 101, 100, 32]⟩ : T).size = 6 := rfl
      have z2 : (⟨#[32]⟩ : T).size = 1 := rfl
      have z3 : (⟨#[10]⟩ : T).size = 1 := rfl
      have y2 : (⟨#[97, 115, 107, 101, 100, 32]⟩ : T).size + (p.berth).size ≤ 9223372036854775807 := by omega
      have y3 : (⟨#[97, 115, 107, 101, 100, 32]⟩ : T).size + (p.berth).size + (⟨#[32]⟩ : T).size ≤ 9223372036854775807 := by omega
      have y4 : (⟨#[97, 115, 107, 101, 100, 32]⟩ : T).size + (p.berth).size + (⟨#[32]⟩ : T).size + (p.hold).size ≤ 9223372036854775807 := by omega
      have y5 : (⟨#[97, 115, 107, 101, 100, 32]⟩ : T).size + (p.berth).size + (⟨#[32]⟩ : T).size + (p.hold).size + (⟨#[32]⟩ : T).size ≤ 9223372036854775807 := by omega
      have y6 : (⟨#[97, 115, 107, 101, 100, 32]⟩ : T).size + (p.berth).size + (⟨#[32]⟩ : T).size + (p.hold).size + (⟨#[32]⟩ : T).size + (p.copy).size ≤ 9223372036854775807 := by omega
      have y7 : (⟨#[97, 115, 107, 101, 100, 32]⟩ : T).size + (p.berth).size + (⟨#[32]⟩ : T).size + (p.hold).size + (⟨#[32]⟩ : T).size + (p.copy).size + (⟨#[32]⟩ : T).size ≤ 9223372036854775807 := by omega
      have y8 : (⟨#[97, 115, 107, 101, 100, 32]⟩ : T).size + (p.berth).size + (⟨#[32]⟩ : T).size + (p.hold).size + (⟨#[32]⟩ : T).size + (p.copy).size + (⟨#[32]⟩ : T).size + (dec p.at_.toNat).size ≤ 9223372036854775807 := by omega
      have y9 : (⟨#[97, 115, 107, 101, 100, 32]⟩ : T).size + (p.berth).size + (⟨#[32]⟩ : T).size + (p.hold).size + (⟨#[32]⟩ : T).size + (p.copy).size + (⟨#[32]⟩ : T).size + (dec p.at_.toNat).size + (⟨#[10]⟩ : T).size ≤ 9223372036854775807 := by omega
      simp [sw236, formSw, s1, s3, h0, hn, hba, k1, k2, q0, q1, q2, q3, g1, g2, a1, word, u0, u1, u2, y2, y3, y4, y5, y6, y7, y8, y9]
    by_cases k3 : p.kind = 3
    · have g2 := g2 k1 (by omega)
      cases q0 : h
      · have e0 : (isHold p.hold && inR p.at_ 0 1000000) = false := by rw [← eh, q0]
        simp [sw236, formSw, s1, s3, h0, hn, hba, k1, k2, k3, q0]
        intro u1 u2 u3
        rw [u1, u3] at e0
        cases e0
      rw [q0] at eh
      obtain ⟨q1, q2⟩ := Bool.and_eq_true_iff.1 eh.symm
      have hhs := isName_size (by simp only [isHold, Bool.and_eq_true] at q1; exact q1.1)
      cases q3 : isName p.copy
      · simp [sw236, formSw, s1, s3, h0, hn, hba, k1, k2, k3, q0, q1, q2, q3]
      have hcs := isName_size q3
      obtain ⟨r1, r2⟩ := inR_le q2
      obtain ⟨a1, b1⟩ := law140' p.at_ (by omega) (by omega)
      have u0 : IntKind.i64.wrap 0 = 0 := by decide
      have u1 : IntKind.i64.wrap 1 = 1 := by decide
      have u2 : IntKind.i64.wrap 2 = 2 := by decide
      have z1 : (⟨#[103, 105, 118, 101, 110, 32]⟩ : T).size = 6 := rfl
      have z2 : (⟨#[32]⟩ : T).size = 1 := rfl
      have z3 : (⟨#[10]⟩ : T).size = 1 := rfl
      have y2 : (⟨#[103, 105, 118, 101, 110, 32]⟩ : T).size + (p.berth).size ≤ 9223372036854775807 := by omega
      have y3 : (⟨#[103, 105, 118, 101, 110, 32]⟩ : T).size + (p.berth).size + (⟨#[32]⟩ : T).size ≤ 9223372036854775807 := by omega
      have y4 : (⟨#[103, 105, 118, 101, 110, 32]⟩ : T).size + (p.berth).size + (⟨#[32]⟩ : T).size + (p.hold).size ≤ 9223372036854775807 := by omega
      have y5 : (⟨#[103, 105, 118, 101, 110, 32]⟩ : T).size + (p.berth).size + (⟨#[32]⟩ : T).size + (p.hold).size + (⟨#[32]⟩ : T).size ≤ 9223372036854775807 := by omega
      have y6 : (⟨#[103, 105, 118, 101, 110, 32]⟩ : T).size + (p.berth).size + (⟨#[32]⟩ : T).size + (p.hold).size + (⟨#[32]⟩ : T).size + (p.copy).size ≤ 9223372036854775807 := by omega
      have y7 : (⟨#[103, 105, 118, 101, 110, 32]⟩ : T).size + (p.berth).size + (⟨#[32]⟩ : T).size + (p.hold).size + (⟨#[32]⟩ : T).size + (p.copy).size + (⟨#[32]⟩ : T).size ≤ 9223372036854775807 := by omega
      have y8 : (⟨#[103, 105, 118, 101, 110, 32]⟩ : T).size + (p.berth).size + (⟨#[32]⟩ : T).size + (p.hold).size + (⟨#[32]⟩ : T).size + (p.copy).size + (⟨#[32]⟩ : T).size + (dec p.at_.toNat).size ≤ 9223372036854775807 := by omega
      have y9 : (⟨#[103, 105, 118, 101, 110, 32]⟩ : T).size + (p.berth).size + (⟨#[32]⟩ : T).size + (p.hold).size + (⟨#[32]⟩ : T).size + (p.copy).size + (⟨#[32]⟩ : T).size + (dec p.at_.toNat).size + (⟨#[10]⟩ : T).size ≤ 9223372036854775807 := by omega
      simp [sw236, formSw, s1, s3, h0, hn, hba, k1, k2, k3, q0, q1, q2, q3, g1, g2, a1, word, u0, u1, u2, y2, y3, y4, y5, y6, y7, y8, y9]
    by_cases k4 : p.kind = 4
    · have g2 := g2 k1 (by omega)
      cases q0 : h
      · have e0 : (isHold p.hold && inR p.at_ 0 1000000) = false := by rw [← eh, q0]
        simp [sw236, formSw, s1, s3, h0, hn, hba, k1, k2, k3, k4, q0]
        intro u1 u2 u3
        rw [u1, u3] at e0
        cases e0
      rw [q0] at eh
      obtain ⟨q1, q2⟩ := Bool.and_eq_true_iff.1 eh.symm
      have hhs := isName_size (by simp only [isHold, Bool.and_eq_true] at q1; exact q1.1)
      cases q3 : isName p.copy
      · simp [sw236, formSw, s1, s3, h0, hn, hba, k1, k2, k3, k4, q0, q1, q2, q3]
      have hcs := isName_size q3
      obtain ⟨r1, r2⟩ := inR_le q2
      obtain ⟨a1, b1⟩ := law140' p.at_ (by omega) (by omega)
      have u0 : IntKind.i64.wrap 0 = 0 := by decide
      have u1 : IntKind.i64.wrap 1 = 1 := by decide
      have u2 : IntKind.i64.wrap 2 = 2 := by decide
      have z1 : (⟨#[98, 97, 99, 107, 32]⟩ : T).size = 5 := rfl
      have z2 : (⟨#[32]⟩ : T).size = 1 := rfl
      have z3 : (⟨#[10]⟩ : T).size = 1 := rfl
      have y2 : (⟨#[98, 97, 99, 107, 32]⟩ : T).size + (p.berth).size ≤ 9223372036854775807 := by omega
      have y3 : (⟨#[98, 97, 99, 107, 32]⟩ : T).size + (p.berth).size + (⟨#[32]⟩ : T).size ≤ 9223372036854775807 := by omega
      have y4 : (⟨#[98, 97, 99, 107, 32]⟩ : T).size + (p.berth).size + (⟨#[32]⟩ : T).size + (p.hold).size ≤ 9223372036854775807 := by omega
      have y5 : (⟨#[98, 97, 99, 107, 32]⟩ : T).size + (p.berth).size + (⟨#[32]⟩ : T).size + (p.hold).size + (⟨#[32]⟩ : T).size ≤ 9223372036854775807 := by omega
      have y6 : (⟨#[98, 97, 99, 107, 32]⟩ : T).size + (p.berth).size + (⟨#[32]⟩ : T).size + (p.hold).size + (⟨#[32]⟩ : T).size + (p.copy).size ≤ 9223372036854775807 := by omega
      have y7 : (⟨#[98, 97, 99, 107, 32]⟩ : T).size + (p.berth).size + (⟨#[32]⟩ : T).size + (p.hold).size + (⟨#[32]⟩ : T).size + (p.copy).size + (⟨#[32]⟩ : T).size ≤ 9223372036854775807 := by omega
      have y8 : (⟨#[98, 97, 99, 107, 32]⟩ : T).size + (p.berth).size + (⟨#[32]⟩ : T).size + (p.hold).size + (⟨#[32]⟩ : T).size + (p.copy).size + (⟨#[32]⟩ : T).size + (dec p.at_.toNat).size ≤ 9223372036854775807 := by omega
      have y9 : (⟨#[98, 97, 99, 107, 32]⟩ : T).size + (p.berth).size + (⟨#[32]⟩ : T).size + (p.hold).size + (⟨#[32]⟩ : T).size + (p.copy).size + (⟨#[32]⟩ : T).size + (dec p.at_.toNat).size + (⟨#[10]⟩ : T).size ≤ 9223372036854775807 := by omega
      simp [sw236, formSw, s1, s3, h0, hn, hba, k1, k2, k3, k4, q0, q1, q2, q3, g1, g2, a1, word, u0, u1, u2, y2, y3, y4, y5, y6, y7, y8, y9]
    by_cases k5 : p.kind = 5
    · have g2 := g2 k1 (by omega)
      cases q0 : h
      · have e0 : (isHold p.hold && inR p.at_ 0 1000000) = false := by rw [← eh, q0]
        simp [sw236, formSw, s1, s3, h0, hn, hba, k1, k2, k3, k4, k5, q0]
        intro u1 u2 u3
        rw [u1, u3] at e0
        cases e0
      rw [q0] at eh
      obtain ⟨q1, q2⟩ := Bool.and_eq_true_iff.1 eh.symm
      have hhs := isName_size (by simp only [isHold, Bool.and_eq_true] at q1; exact q1.1)
      cases q3 : sEq p.copy ⟨#[]⟩
      · simp [sw236, formSw, s1, s3, h0, hn, hba, k1, k2, k3, k4, k5, q0, q1, q2, q3]
      obtain ⟨r1, r2⟩ := inR_le q2
      obtain ⟨a1, b1⟩ := law140' p.at_ (by omega) (by omega)
      have z1 : (⟨#[103, 111, 116, 98, 97, 99, 107, 32]⟩ : T).size = 8 := rfl
      have z2 : (⟨#[32]⟩ : T).size = 1 := rfl
      have z3 : (⟨#[10]⟩ : T).size = 1 := rfl
      have y2 : (⟨#[103, 111, 116, 98, 97, 99, 107, 32]⟩ : T).size + (p.berth).size ≤ 9223372036854775807 := by omega
      have y3 : (⟨#[103, 111, 116, 98, 97, 99, 107, 32]⟩ : T).size + (p.berth).size + (⟨#[32]⟩ : T).size ≤ 9223372036854775807 := by omega
      have y4 : (⟨#[103, 111, 116, 98, 97, 99, 107, 32]⟩ : T).size + (p.berth).size + (⟨#[32]⟩ : T).size + (p.hold).size ≤ 9223372036854775807 := by omega
      have y5 : (⟨#[103, 111, 116, 98, 97, 99, 107, 32]⟩ : T).size + (p.berth).size + (⟨#[32]⟩ : T).size + (p.hold).size + (⟨#[32]⟩ : T).size ≤ 9223372036854775807 := by omega
      have y6 : (⟨#[103, 111, 116, 98, 97, 99, 107, 32]⟩ : T).size + (p.berth).size + (⟨#[32]⟩ : T).size + (p.hold).size + (⟨#[32]⟩ : T).size + (dec p.at_.toNat).size ≤ 9223372036854775807 := by omega
      have y7 : (⟨#[103, 111, 116, 98, 97, 99, 107, 32]⟩ : T).size + (p.berth).size + (⟨#[32]⟩ : T).size + (p.hold).size + (⟨#[32]⟩ : T).size + (dec p.at_.toNat).size + (⟨#[10]⟩ : T).size ≤ 9223372036854775807 := by omega
      simp [sw236, formSw, s1, s3, h0, hn, hba, k1, k2, k3, k4, k5, q0, q1, q2, q3, g1, g2, a1, y2, y3, y4, y5, y6, y7]
    by_cases k6 : p.kind = 6
    · cases q1 : inR p.seen 0 1000000
      · simp [sw236, formSw, s1, s3, h0, hn, hba, k1, k2, k3, k4, k5, k6, q1]
      cases e1 : sEq p.hold ⟨#[]⟩
      · have en : noHold p = false := by simp [noHold, e1]
        simp [sw236, formSw, s1, s3, h0, hn, hba, k1, k2, k3, k4, k5, k6, q1, e1, en]
      cases e2 : sEq p.copy ⟨#[]⟩
      · have en : noHold p = false := by simp [noHold, e1, e2]
        simp [sw236, formSw, s1, s3, h0, hn, hba, k1, k2, k3, k4, k5, k6, q1, e1, e2, en]
      by_cases e3 : p.at_ = 0
      case neg =>
        have en : noHold p = false := by simp [noHold, e1, e2, e3]
        simp [sw236, formSw, s1, s3, h0, hn, hba, k1, k2, k3, k4, k5, k6, q1, e1, e2, e3, en]
      have en : noHold p = true := by simp [noHold, e1, e2, e3]
      obtain ⟨r1, r2⟩ := inR_le q1
      obtain ⟨a1, b1⟩ := law140' p.seen (by omega) (by omega)
      have z1 : (⟨#[104, 101, 114, 101, 32]⟩ : T).size = 5 := rfl
      have z2 : (⟨#[32]⟩ : T).size = 1 := rfl
      have z3 : (⟨#[10]⟩ : T).size = 1 := rfl
      have y2 : (⟨#[104, 101, 114, 101, 32]⟩ : T).size + (p.berth).size ≤ 9223372036854775807 := by omega
      have y3 : (⟨#[104, 101, 114, 101, 32]⟩ : T).size + (p.berth).size + (⟨#[32]⟩ : T).size ≤ 9223372036854775807 := by omega
      have y4 : (⟨#[104, 101, 114, 101, 32]⟩ : T).size + (p.berth).size + (⟨#[32]⟩ : T).size + (dec p.seen.toNat).size ≤ 9223372036854775807 := by omega
      have y5 : (⟨#[104, 101, 114, 101, 32]⟩ : T).size + (p.berth).size + (⟨#[32]⟩ : T).size + (dec p.seen.toNat).size + (⟨#[10]⟩ : T).size ≤ 9223372036854775807 := by omega
      simp [sw236, formSw, s1, s3, h0, hn, hba, k1, k2, k3, k4, k5, k6, q1, e1, e2, e3, en, g1, a1, y2, y3, y4, y5]
    · simp [sw236, formSw, s1, s3, h0, hn, hba, k1, k2, k3, k4, k5, k6]
  cases qh : isHold p.hold
  · rw [qh] at tail
    by_cases k1 : p.kind = 1
    · simp [c236_cut, qb, qh, k1]
      exact tail false (by simp) _ _ (by simp) (by simp) (by simp [k1]) rfl rfl (fun h => absurd k1 h) (fun h => absurd k1 h)
    by_cases qw : p.wants = []
    case neg =>
      have hz := hz qw
      simp [c236_cut, qb, qh, k1, hz, qw, formSw]
    by_cases k6 : p.kind = 6
    · simp [c236_cut, qb, qh, k6, qw]
      exact tail false (by simp) _ _ (by simp) (by simp) (by simp [k6, qw]) rfl rfl (fun _ => by simp [qw]) (fun _ h => absurd k6 h)
    by_cases q0 : p.seen = 0
    · simp [c236_cut, qb, qh, k1, k6, qw, q0]
      exact tail false (by simp) _ _ (by simp) (by simp) (by simp [q0, qw]) rfl rfl (fun _ => by simp [qw]) (fun _ _ => q0)
    · simp [c236_cut, qb, qh, k1, k6, qw, q0, formSw]
  · rw [qh] at tail
    cases qa : inR p.at_ 0 1000000
    · rw [qa] at tail
      by_cases k1 : p.kind = 1
      · simp [c236_cut, qb, qh, qa, k1]
        exact tail false (by simp) _ _ (by simp) (by simp) (by simp [k1]) rfl rfl (fun h => absurd k1 h) (fun h => absurd k1 h)
      by_cases qw : p.wants = []
      case neg =>
        have hz := hz qw
        simp [c236_cut, qb, qh, qa, k1, hz, qw, formSw]
      by_cases k6 : p.kind = 6
      · simp [c236_cut, qb, qh, qa, k6, qw]
        exact tail false (by simp) _ _ (by simp) (by simp) (by simp [k6, qw]) rfl rfl (fun _ => by simp [qw]) (fun _ h => absurd k6 h)
      by_cases q0 : p.seen = 0
      · simp [c236_cut, qb, qh, qa, k1, k6, qw, q0]
        exact tail false (by simp) _ _ (by simp) (by simp) (by simp [q0, qw]) rfl rfl (fun _ => by simp [qw]) (fun _ _ => q0)
      · simp [c236_cut, qb, qh, qa, k1, k6, qw, q0, formSw]
    · rw [qa] at tail
      by_cases k1 : p.kind = 1
      · simp [c236_cut, qb, qh, qa, k1]
        exact tail true (by simp) _ _ (by simp) (by simp) (by simp [k1]) rfl rfl (fun h => absurd k1 h) (fun h => absurd k1 h)
      by_cases qw : p.wants = []
      case neg =>
        have hz := hz qw
        simp [c236_cut, qb, qh, qa, k1, hz, qw, formSw]
      by_cases k6 : p.kind = 6
      · simp [c236_cut, qb, qh, qa, k6, qw]
        exact tail true (by simp) _ _ (by simp) (by simp) (by simp [k6, qw]) rfl rfl (fun _ => by simp [qw]) (fun _ h => absurd k6 h)
      by_cases q0 : p.seen = 0
      · simp [c236_cut, qb, qh, qa, k1, k6, qw, q0]
        exact tail true (by simp) _ _ (by simp) (by simp) (by simp [q0, qw]) rfl rfl (fun _ => by simp [qw]) (fun _ _ => q0)
      · simp [c236_cut, qb, qh, qa, k1, k6, qw, q0, formSw]
end Go.Proofs.YthncjlbkncmekaaDoor

namespace Go.Proofs.YthncjlbkncmekaaDoor
open Go
set_option linter.unusedSimpArgs false
set_option maxRecDepth 100000

theorem form_law (p : Parcel) (hw : p.wf) : F 259 [.agg (p.c .bor)] [] = some (.bool true, []) := by
  obtain ⟨r, h1, h2⟩ := law65 p 1048576 hw (by omega) (by omega)
  refine F_run fn259 rfl ?_
  simp only [Parcel.c] at h1
  rcases h2 with h2 | ⟨h2, _, hs⟩
  · have h' : ¬ (0 ≤ r) := by omega
    simp [c259, h1, h2, h']
  · have h' : ¬ (r < 0) := by omega
    have w1 := law60 p hs
    have w2 := law63 p hs
    have w3 := law236 p hs
    have w4 := law218 p hs
    simp only [Parcel.c] at w1 w2 w3 w4
    simp [c259, h1, h2, h', w1, w2, w3, w4]
end Go.Proofs.YthncjlbkncmekaaDoor

namespace Go.Proofs.YthncjlbkncmekaaDoor
open Go Go.RowKit
set_option linter.unusedSimpArgs false

/-- What is frozen lies in this world. -/
def FzIn (fz : List (Nat × Obj)) (w : World) : Prop := ∀ p ∈ fz, p.1 < w.heap.size ∧ w.heap[p.1]? = some p.2

/-- A call that goes in, and comes back as this says. -/
def Ret (P : Program) (f : FuncId) (vs : Array Value) (w : World) (R : Value → World → Prop) : Prop :=
  (callFunc f vs).run P w = .ok (.enter f vs) w ∧ Calls P f vs w fun e w' => ∃ v, e = .returned v ∧ Below w.heap.size w w' ∧ R v w'

theorem Ret.callable {P : Program} {f : FuncId} {vs : Array Value} {w : World} {R R' : Value → World → Prop} (h : Ret P f vs w R) (hr : ∀ v w', Below w.heap.size w w' → R v w' → R' v w') : Callable P f vs w R' := by
  intro o a next Q hnext
  rw [h.1, Oper.upon_enter]
  refine h.2.mono fun e w' he => ?_
  obtain ⟨v, rfl, hb, hR⟩ := he
  exact hnext v w' (hr v w' hb hR)

structure PrimsOk (P : Program) (num : Nat → Option FuncId) (fz : List (Nat × Obj)) : Prop where
  sfx : ∀ f, num 222 = some f → ∀ (s p : ByteArray) (w : World), FzIn fz w → s.size ≤ 9223372036854775807 → Ret P f #[.string s, .string p] w fun v _ => v = .bool (Lib.hasSuffix s.data.toList p.data.toList)
  spl : ∀ f, num 220 = some f → ∀ (s sep : ByteArray) (w : World), FzIn fz w → s.size < 4294967281 → 1 ≤ sep.size → Ret P f #[.string s, .string sep] w fun v w' => v = .slice (some ⟨w.heap.size, 0, none⟩) (splitT s sep).length (splitT s sep).length ∧ ∃ t, w'.heap[w.heap.size]? = some (.cells ((splitT s sep).map Value.string).toArray t (0, 0))
  joi : ∀ f, num 230 = some f → ∀ (a : Option Addr) (c : Nat) (xs : List ByteArray) (sep : ByteArray) (w : World), FzIn fz w → (xs = [] ∨ ∃ b o, a = some ⟨b, o, none⟩ ∧ b < w.heap.size ∧ xs.length ≤ c ∧ ∀ (j : Nat) x, xs[j]? = some x → w.cell? ⟨b, o + j, none⟩ = some (.string x)) →
    xs.length ≤ 140737488355328 → (joinT xs sep).size ≤ 140737488355328 → Ret P f #[.slice a xs.length c, .string sep] w fun v _ => v = .string (joinT xs sep)
  ito : ∀ f, num 231 = some f → ∀ (n : Int) (w : World), FzIn fz w → -9223372036854775808 ≤ n → n ≤ 9223372036854775807 → Ret P f #[.int .i64 n] w fun v _ => v = .string (itoaT n)
  ato : ∀ f, num 221 = some f → ∀ (s : ByteArray) (w : World), FzIn fz w → s.size ≤ 281474976710656 → Ret P f #[.string s] w fun v _ => v = .int .i64 (numT s)

theorem Mem.fzIn {cx : Cx} {h : Nat → Option AO} {ep : Nat} {g : Gh} {w : World} (m : Mem cx h ep g w) : FzIn cx.fz w := fun _ hp => ⟨(m.fz_now hp).1, (m.fz_now hp).2.1⟩

/-- Behind a call that gives back one plain value. -/
theorem post_plain {cx : Cx} {h : Nat → Option AO} {g : Gh} {w w' : World} (m : Mem cx h 0 g w) (hw : cx.w0 = w) (h0 : cx.base = 0) (hb : Below w.heap.size w w') {v : Value} {r : AV} (hr : Cl w' g.I v r (fun _ => False)) (ht : r.isTup = false) :
    ∃ I N S fo, Post cx w' v r [] I N S fo := by
  refine ⟨g.I, g.N, fun _ => False, fun _ _ => False, ⟨?_, h0.symm, m.I_up, m.I_new, m.I_N, m.N_up, m.N_new, fun b h => Nat.lt_of_lt_of_le (m.N_lt b h) hb.size, .one _ _ _ (.one _ _ _ hr (fun _ h => h.elim)) ht, fun k o h => by simp at h, fun _ h => h.elim, fun _ _ _ h => h.elim, fun _ _ _ h => h.elim, fun _ _ _ _ _ h => h.elim⟩⟩
  rw [hw]
  exact ⟨hb.os, hb.tape, hb.output, hb.size, fun b h1 _ => hb.block b h1⟩

/-- Behind a call that gives back a new row of texts. -/
theorem post_texts {cx : Cx} {h : Nat → Option AO} {g : Gh} {w w' : World} (m : Mem cx h 0 g w) (hw : cx.w0 = w) (h0 : cx.base = 0) (hb : Below w.heap.size w w') {xs : List ByteArray} {t : TypeId} (hmax : xs.length ≤ maxLen)
    (hh : w'.heap[w.heap.size]? = some (.cells (xs.map Value.string).toArray t (0, 0))) :
    ∃ I N S fo, Post cx w' (.slice (some ⟨w.heap.size, 0, none⟩) xs.length xs.length) (.sl .own 1 (xs.map fun x => [.str x])) [] I N S fo := by
  have hlt := (Array.getElem?_eq_some_iff.1 hh).1
  have hca : ∀ i j c, cellAt (xs.map fun x => [AV.str x]) i j = some c → ∃ x, xs[i]? = some x ∧ j = 0 ∧ c = .str x := fun i j c hc => by
    obtain ⟨row, h1, h2⟩ := cellAt_some.1 hc
    rw [List.getElem?_map] at h1
    cases hi : xs[i]? with
    | none => rw [hi] at h1; cases h1
    | some x =>
      rw [hi] at h1
      simp only [Option.map_some, Option.some.injEq] at h1
      subst h1
      cases j with
      | zero => exact ⟨x, rfl, rfl, by simpa using h2.symm⟩
      | succ j => simp at h2
  refine ⟨g.I, fun b => g.N b ∨ b = w.heap.size, fun b => b = w.heap.size, fun _ _ => False, ⟨?_, h0.symm, m.I_up, m.I_new, fun b h => .inl (m.I_N b h), fun b h => .inl (m.N_up b h), fun b h => ?_, fun b h => ?_, .one _ _ _ (.one _ _ _ ?_ (fun x h => .inr h)) rfl, fun k o h => by simp at h, fun x h => ?_, fun _ _ _ h => h.elim, fun _ _ _ _ h => h, fun _ _ _ _ _ h => h.elim⟩⟩
  · rw [hw]
    exact ⟨hb.os, hb.tape, hb.output, hb.size, fun b h1 _ => hb.block b h1⟩
  · rcases h with h | h
    · exact m.N_new b h
    · exact .inr (by rw [hw, h]; exact Nat.le_refl _)
  · rcases h with h | h
    · exact Nat.lt_of_lt_of_le (m.N_lt b h) hb.size
    · rw [h]; exact hlt
  · have e : xs.length = (xs.map fun x => [AV.str x]).length := by simp
    rw [e]
    have e2 : (xs.map fun x => [AV.str x]).length = xs.length := by simp
    refine .own 1 _ w.heap.size _ (xs.map Value.string).toArray t (fun i _ => (xs[i]?.map Value.string).getD undef) (fun _ _ _ => False) _ hh (by simp) (by rw [e2]; exact hmax) (by simp) (fun row hr => ?_) (fun i j c hc => ?_) (fun i j c hc => ?_) (fun _ _ _ _ _ _ _ _ _ h => h.elim) (fun _ _ _ _ h => h) (fun x => ?_)
    · obtain ⟨x, _, rfl⟩ := List.mem_map.1 hr; rfl
    · obtain ⟨x, h1, rfl, rfl⟩ := hca i j c hc
      simp [h1]
    · obtain ⟨x, h1, rfl, rfl⟩ := hca i j c hc
      simp only [h1, Option.map_some, Option.getD_some]
      exact .str _ _ (fun _ h => h)
    · constructor
      · exact fun h => .inl h
      · rintro (h | ⟨_, _, _, _, h⟩)
        · exact h
        · exact h.elim
  · subst h
    refine ⟨.inr (by rw [hw]; exact Nat.le_refl _), fun hI => ?_⟩
    have := m.I_lt _ hI
    omega

theorem textsOf_cells : ∀ {rows : List (List AV)} {xs : List ByteArray}, textsOf rows = some xs → xs.length = rows.length ∧ ∀ (j : Nat) x, xs[j]? = some x → cellAt rows j 0 = some (.str x)
  | [], xs, h => by
    simp only [textsOf, Option.some.injEq] at h
    subst h
    exact ⟨rfl, fun j x hx => by simp at hx⟩
  | [] :: _, xs, h => by simp [textsOf] at h
  | (c :: d :: e) :: r, xs, h => by
    cases c <;> simp [textsOf] at h
  | [c] :: r, xs, h => by
    cases c <;> try (simp [textsOf] at h; done)
    rename_i s
    simp only [textsOf] at h
    cases hr : textsOf r with
    | none => rw [hr] at h; cases h
    | some ys =>
      rw [hr] at h
      simp only [Option.some.injEq] at h
      subst h
      obtain ⟨h1, h2⟩ := textsOf_cells hr
      refine ⟨by simp [h1], fun j x hx => ?_⟩
      cases j with
      | zero =>
        simp only [List.getElem?_cons_zero, Option.some.injEq] at hx
        subst hx
        exact cellAt_some.2 ⟨_, rfl, rfl⟩
      | succ j =>
        obtain ⟨row, h3, h4⟩ := cellAt_some.1 (h2 j x (by simpa using hx))
        exact cellAt_some.2 ⟨row, by simpa using h3, h4⟩

theorem prims_contract {P : Program} {num : Nat → Option FuncId} {fz : List (Nat × Obj)} (hp : PrimsOk P num fz) : ∀ k f args objs r outs, num k = some f → prim k args objs = some (r, outs) → Contract P num fz f args objs r outs := by
  intro k f args objs r outs hn h
  cases objs with
  | cons _ _ => cases h
  | nil =>
  replace h : primGo k args = some (r, outs) := h
  intro cx g w vs hP hnum hfz hw0 hbase hh0 hv0 hu m hsz hrel
  subst hP; subst hnum; subst hfz
  have hfi := m.fzIn
  have hbase0 : cx.base = 0 := hbase
  have one : ∀ (c : AV), args = [c] → ∃ v, vs = #[v] ∧ SRel cx.num w cx.R g (startHeap [] 0) 0 v c := fun c hc => by
    subst hc
    have : vs.size = 1 := hsz
    obtain ⟨v, rfl⟩ : ∃ v, vs = #[v] := ⟨vs[0], by apply Array.ext' ; match vs, this with | ⟨[x]⟩, _ => rfl⟩
    exact ⟨v, rfl, hrel 0 v c rfl rfl⟩
  have two : ∀ (c d : AV), args = [c, d] → ∃ v u, vs = #[v, u] ∧ SRel cx.num w cx.R g (startHeap [] 0) 0 v c ∧ SRel cx.num w cx.R g (startHeap [] 0) 0 u d := fun c d hc => by
    subst hc
    have : vs.size = 2 := hsz
    obtain ⟨v, u, rfl⟩ : ∃ v u, vs = #[v, u] := by match vs, this with | ⟨[x, y]⟩, _ => exact ⟨x, y, rfl⟩
    exact ⟨v, u, rfl, hrel 0 v c rfl rfl, hrel 1 u d rfl rfl⟩
  unfold primGo at h
  split at h
  · subst k
    split at h
    case h_2 => cases h
    rename_i s p
    split at h
    case isFalse => cases h
    rename_i hs
    obtain ⟨rfl, rfl⟩ := Prod.mk.inj (Option.some.inj h)
    obtain ⟨v, u, rfl, r1, r2⟩ := two _ _ rfl
    cases r1; cases r2
    refine (hp.sfx f hn s p w hfi hs).callable fun v w' hb hv => ?_
    subst hv
    exact post_plain m hw0 hbase0 hb (.bool _ _ fun _ h => h) rfl
  split at h
  · subst k
    split at h
    case h_2 => cases h
    rename_i s sep
    split at h
    case isFalse => cases h
    rename_i hs
    obtain ⟨rfl, rfl⟩ := Prod.mk.inj (Option.some.inj h)
    obtain ⟨v, u, rfl, r1, r2⟩ := two _ _ rfl
    cases r1; cases r2
    refine (hp.spl f hn s sep w hfi hs.1 hs.2).callable fun v w' hb hv => ?_
    obtain ⟨rfl, t, ht⟩ := hv
    have hlen : (splitT s sep).length = Lib.countB s sep + 1 := Lib.splitB_all sep hs.2 0 _ s rfl
    have hle := Lib.countB_le sep hs.2 s.size s (Nat.le_refl _)
    exact post_texts m hw0 hbase0 hb (by rw [hlen]; unfold maxLen; omega) ht
  split at h
  · subst k
    split at h
    case h_2 => cases h
    rename_i rows sep
    split at h
    case h_2 => cases h
    rename_i xs hx
    split at h
    case isFalse => cases h
    rename_i hs
    obtain ⟨rfl, rfl⟩ := Prod.mk.inj (Option.some.inj h)
    obtain ⟨v, u, rfl, r1, r2⟩ := two _ _ rfl
    obtain ⟨hl, hc⟩ := textsOf_cells hx
    cases r2
    cases r1 with
    | sl _ _ _ _ h1 hm _ _ =>
      have hB := hm rfl
      cases hB with
      | nil _ _ a cap =>
        have : xs = [] := by simpa using hl
        subst this
        refine (hp.joi f hn a cap [] sep w hfi (.inl rfl) hs.1 hs.2).callable fun v w' hb hv => ?_
        subst hv
        exact post_plain m hw0 hbase0 hb (.str _ _ fun _ h => h) rfl
      | sl _ _ _ b o cap us hcap hb' hrow hcell hin =>
        rw [← hl]
        refine (hp.joi f hn (some ⟨b, o, none⟩) cap xs sep w hfi (.inr ⟨b, o, rfl, ?_, by omega, fun j x hj => ?_⟩) hs.1 hs.2).callable fun v w' hb hv => ?_
        · have h3 := m.R_old b hb'
          rw [hw0] at h3
          exact h3.1
        · have h3 := hc j x hj
          have h4 := hcell j 0 _ h3
          have h5 := hin j 0 _ h3
          rw [Nat.mul_one, Nat.add_zero] at h4
          rw [h4]
          generalize us j 0 = uv at h5
          cases h5
          rfl
        · subst hv
          exact post_plain m hw0 hbase0 hb (.str _ _ fun _ h => h) rfl
  split at h
  · subst k
    split at h
    case h_2 => cases h
    rename_i n
    split at h
    case isFalse => cases h
    rename_i hs
    obtain ⟨rfl, rfl⟩ := Prod.mk.inj (Option.some.inj h)
    obtain ⟨v, rfl, r1⟩ := one _ rfl
    cases r1
    refine (hp.ito f hn n w hfi hs.1 hs.2).callable fun v w' hb hv => ?_
    subst hv
    exact post_plain m hw0 hbase0 hb (.str _ _ fun _ h => h) rfl
  split at h
  · subst k
    split at h
    case h_2 => cases h
    rename_i s
    split at h
    case isFalse => cases h
    rename_i hs
    obtain ⟨rfl, rfl⟩ := Prod.mk.inj (Option.some.inj h)
    obtain ⟨v, rfl, r1⟩ := one _ rfl
    cases r1
    refine (hp.ato f hn s w hfi hs).callable fun v w' hb hv => ?_
    subst hv
    exact post_plain m hw0 hbase0 hb (.int _ _ _ fun _ h => h) rfl
  · cases h

/-- A program that calls none of them. -/
theorem primsOk_none {P : Program} {num : Nat → Option FuncId} {fz : List (Nat × Obj)} (h1 : num 222 = none) (h2 : num 220 = none) (h3 : num 230 = none) (h4 : num 231 = none) (h5 : num 221 = none) : PrimsOk P num fz :=
  ⟨fun f h => (by rw [h1] at h; cases h), fun f h => (by rw [h2] at h; cases h), fun f h => (by rw [h3] at h; cases h), fun f h => (by rw [h4] at h; cases h), fun f h => (by rw [h5] at h; cases h)⟩

/-- What is asked of the sorts, comparison by comparison. -/
theorem srtAll_of {P : Program} {num : Nat → Option FuncId} (h : ∀ e ∈ sortTab, ∀ f t fs, num e.1 = some f → num (1000 + e.1) = some t → num kSort = some fs → SortOk P fs f t e.2.1 e.2.2.1 e.2.2.2) : SrtAll P num :=
  fun kl o c sz hm f t fs h1 h2 h3 => h (kl, o, c, sz) (by simpa using hm) f t fs h1 h2 h3
theorem srtAll_none {P : Program} {num : Nat → Option FuncId} (h : num kSort = none) : SrtAll P num := fun _ _ _ _ _ f t fs _ _ h3 => by rw [h] at h3; cases h3
end Go.Proofs.YthncjlbkncmekaaDoor
