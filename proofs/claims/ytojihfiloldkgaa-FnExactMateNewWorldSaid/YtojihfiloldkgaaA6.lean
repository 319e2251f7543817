/- Layer 6: the book of grants: what it must be. -/
import Derived.Test.YtojihfiloldkgaaA1
namespace Go.Proofs.Ytojihfiloldkgaa
open Go
set_option linter.unusedSimpArgs false
set_option maxRecDepth 100000

def grantOk (t : Int) (g : Grant) : Bool := isHold g.hold && (isName g.berth && (isName g.copy && (inR g.at_ 0 1000000 && inR g.til 0 (IntKind.i64.wrap (t + 32)))))
def ascG (pre : List Grant) (g : Grant) : Bool :=
  match pre.getLast? with
  | none => true
  | some p => sLt p.hold g.hold
def grantsGo (t : Int) (pre : List Grant) : List Grant → Bool
  | [] => true
  | g :: r => grantOk t g && (ascG pre g && grantsGo t (pre ++ [g]) r)
def ascP (pre : List Place) (p : Place) : Bool :=
  match pre.getLast? with
  | none => true
  | some q => sLt q.berth p.berth
def heldIn (pre : List Place) (k : T) : Bool := heldB (pre.flatMap Place.wants) k
def freshP (pre : List Place) (p : Place) : Bool := p.wants.all fun w => sEq w.hold ⟨#[]⟩ || !heldIn pre w.hold
def placeOk (p : Place) : Bool := isName p.berth && (inR p.seen 1 1000000 && wantsOk p.wants)
def placesGo (pre : List Place) : List Place → Bool
  | [] => true
  | p :: r => placeOk p && (ascP pre p && (freshP pre p && placesGo (pre ++ [p]) r))
def landOk (l : Land) : Bool :=
  inR l.time 0 2000000 && (decide (l.time.tmod 2 = 0) && (decide (l.grants.length ≤ 40) && (decide (l.places.length ≤ 4) && (grantsGo l.time [] l.grants && placesGo [] l.places))))

structure Place.small (p : Place) : Prop where
  wants : p.wants.length ≤ 1048576
structure Land.small (l : Land) : Prop where
  grants : l.grants.length ≤ 1048576
  places : l.places.length ≤ 1048576
  each : ∀ p ∈ l.places, p.small

/-- In wants that are ok no hold comes twice. -/
theorem wantsGo_fresh : ∀ (r pre : List Want), wantsGo pre r = true → ∀ j w, r[j]? = some w → freshW (pre ++ r.take j) w = true
  | [], _, _, j, w, h => by simp at h
  | a :: r, pre, hg, j, w, h => by
    simp only [wantsGo, Bool.and_eq_true] at hg
    cases j with
    | zero => simp at h; subst h; simpa using hg.2.2.1
    | succ j =>
      have := wantsGo_fresh r (pre ++ [a]) hg.2.2.2 j w (by simpa using h)
      simpa using this

theorem wantsOk_fresh {ws : List Want} (h : wantsOk ws = true) {j : Nat} {w : Want} (hw : ws[j]? = some w) (hne : sEq w.hold ⟨#[]⟩ = false) : heldB (ws.take j) w.hold = false := by
  unfold wantsOk at h
  rw [Bool.and_eq_true] at h
  have := wantsGo_fresh ws [] h.2 j w hw
  simp only [List.nil_append, freshW, hne, Bool.false_or, Bool.not_eq_true'] at this
  exact this

theorem heldB_append (a b : List Want) (k : T) : heldB (a ++ b) k = (heldB a k || heldB b k) := by simp [heldB]
theorem heldMap_append (a b : List Want) : heldMap (a ++ b) = b.foldl (fun m w => mapPut w.hold (.bool true) m) (heldMap a) := by simp [heldMap]

def head23g (l : Land) (m : Md) (i : Nat) : St := hd [(1, .ptr 0 0 0), (33, .sl .bor 5 (l.grants.map Grant.c)), (34, .int .i64 l.grants.length), (35, .int .i64 i)] [.box (l.c .bor m)] 0
def head23p (l : Land) (m : Md) (i : Nat) : St := hd [(1, .ptr 0 0 0), (5, .mapr 1), (90, .sl .bor 3 (l.places.map (Place.c m))), (91, .int .i64 l.places.length), (92, .int .i64 i)]
  [.box (l.c .bor m), .map (heldMap ((l.places.take i).flatMap Place.wants))] 0
def head23w (l : Land) (m : Md) (i : Nat) (ws : List Want) (j : Nat) : St := hd [(1, .ptr 0 0 0), (5, .mapr 1), (90, .sl .bor 3 (l.places.map (Place.c m))), (91, .int .i64 l.places.length), (92, .int .i64 i), (130, .sl .bor 7 (ws.map Want.c)), (131, .int .i64 ws.length), (132, .int .i64 j)]
  [.box (l.c .bor m), .map (heldMap ((l.places.take i).flatMap Place.wants ++ ws.take j))] 0

def cw (w x : Want) : Bool := !sEq w.hold ⟨#[]⟩ && sEq w.hold x.hold
theorem freshP_any (pre : List Place) (p : Place) : (!(pre.any fun q => p.wants.any fun w => q.wants.any (cw w))) = freshP pre p := by
  rw [Bool.eq_iff_iff, Bool.not_eq_true', List.any_eq_false]
  unfold freshP
  rw [List.all_eq_true]
  constructor
  · intro h w hw
    cases h1 : sEq w.hold ⟨#[]⟩
    · simp only [Bool.false_or, Bool.not_eq_true', heldIn, heldB, List.any_eq_false, List.mem_flatMap]
      rintro x ⟨q, hq, hx⟩ h2
      apply h q hq
      rw [List.any_eq_true]
      refine ⟨w, hw, ?_⟩
      rw [List.any_eq_true]
      exact ⟨x, hx, by simp [cw, h1]; rw [sEq_comm]; exact h2⟩
    · rfl
  · intro h q hq h2
    obtain ⟨w, hw, h3⟩ := List.any_eq_true.1 h2
    obtain ⟨x, hx, h4⟩ := List.any_eq_true.1 h3
    simp only [cw, Bool.and_eq_true, Bool.not_eq_true'] at h4
    have h5 := h w hw
    rw [h4.1] at h5
    simp only [Bool.false_or, Bool.not_eq_true', heldIn, heldB, List.any_eq_false, List.mem_flatMap] at h5
    exact h5 x ⟨q, hq, hx⟩ (by rw [sEq_comm]; exact h4.2)

def head99 (ps : List Place) (m : Md) (i : Nat) : St := hd [(0, .sl .bor 3 (ps.map (Place.c m))), (3, .int .i64 i)] [] 0
def head99k (ps : List Place) (m : Md) (i : Nat) (p : Place) (k : Nat) : St := hd [(0, .sl .bor 3 (ps.map (Place.c m))), (3, .int .i64 i), (4, .ptr 0 0 0), (5, .int .i64 k)] [.box (p.c .bor)] 0
def head99j (ps : List Place) (m : Md) (i : Nat) (p : Place) (k j : Nat) : St := hd [(0, .sl .bor 3 (ps.map (Place.c m))), (3, .int .i64 i), (4, .ptr 0 0 0), (5, .int .i64 k), (6, .int .i64 j)] [.box (p.c .bor)] 0
def head99n (ps : List Place) (m : Md) (i : Nat) (p : Place) (k j n : Nat) : St := hd [(0, .sl .bor 3 (ps.map (Place.c m))), (3, .int .i64 i), (4, .ptr 0 0 0), (5, .int .i64 k), (6, .int .i64 j), (7, .int .i64 n)] [.box (p.c .bor)] 0

theorem law99 (ps : List Place) (m : Md) (hl : ps.length ≤ 1048576) (he : ∀ p ∈ ps, p.small) : F 99 [.sl .bor 3 (ps.map (Place.c m))] [] = some (.bool (decide (ps.length ≤ 4) && placesGo [] ps), []) := by
  refine F_run fn99 rfl ?_
  simp [c99]
  by_cases h4 : ps.length ≤ 4
  case neg =>
    have h4' : 4 < (ps.length : Int) := by omega
    simp [h4, h4']
  have h4' : ¬ (4 < (ps.length : Int)) := by omega
  simp [h4, h4']
  refine (loop_list ps (fun i (_ : Unit) => head99 ps m i) (fun _ _ => True) (fun i r _ => (.bool (placesGo (ps.take i) r), [])) (fun acc Y _ => ?_) (fun i a r acc Y ha hi hr _ hY => ?_) () ?_ trivial ?_).trans rfl
  · simp [head99, c99b3, placesGo]
  · have hw : IntKind.i64.wrap ((i : Int) + 1) = (i : Int) + 1 := i64w (by omega) (by omega)
    obtain ⟨_, hg⟩ := List.getElem?_eq_some_iff.1 ha
    have hs := take_snoc ha
    have hws := (he a (List.mem_of_getElem? ha)).wants
    have w7 := law7 a.wants (by unfold big; omega)
    have hY' : ∀ s', s'.norm [0, 3] = head99 ps m (i + 1) → fin [CRes.tmp 2] 0 (Y s') = some (.bool (placesGo (ps.take i ++ [a]) r), []) := fun s' h => by rw [← hs]; exact hY () s' trivial h
    have hcase : (¬ 0 < i ∧ (ps.take i).getLast? = none) ∨ ∃ j : Nat, 0 < i ∧ IntKind.i64.wrap ((i : Int) - 1) = (j : Int) ∧ ∃ h : j < ps.length, (ps.take i).getLast? = some (ps[j]'h) := by
      by_cases hz : i = 0
      · left; exact ⟨by omega, by rw [hz]; rfl⟩
      · right; exact prev hi (by omega) hz
    rcases hcase with ⟨hp, hlast⟩ | ⟨j, hp, hw1, hj, hlast⟩
    · simp [head99, c99b3, placesGo, hg, hi, ascP, hp, hlast, placeOk, w7]
      cases q7 : isName a.berth <;> simp
      cases q8 : inR a.seen 1 1000000 <;> simp
      cases q9 : wantsOk a.wants <;> simp
      rw [← freshP_any]
      refine (loop_list (ps.take i) (fun k (_ : Unit) => head99k ps m i a k) (fun _ _ => True) (fun _ t _ => (.bool (!(t.any fun q => a.wants.any fun w => q.wants.any (cw w)) && placesGo (ps.take i ++ [a]) r), [])) (fun acc Z _ => ?_) (fun k b t acc Z hb hk ht _ hZ => ?_) () ?_ trivial ?_).trans rfl
      · have hlen : (ps.take i).length = i := by simp; omega
        rw [hlen]
        simp [head99k, c99b2]
        exact hY' _ (by simp [head99, hw])
      · have hk2 : k < i := by simp at hk; omega
        have hwk : IntKind.i64.wrap ((k : Int) + 1) = (k : Int) + 1 := i64w (by omega) (by omega)
        have hb2 : ps[k]? = some b := by rw [List.getElem?_take, if_pos hk2] at hb; exact hb
        obtain ⟨hkl, hgb⟩ := List.getElem?_eq_some_iff.1 hb2
        have hbw := (he b (List.mem_of_getElem? hb2)).wants
        have hZ' : ∀ s', s'.norm [0, 3, 4, 5] = head99k ps m i a (k + 1) → fin [CRes.tmp 2] 0 (Z s') = some (.bool (!(t.any fun q => a.wants.any fun w => q.wants.any (cw w)) && placesGo (ps.take i ++ [a]) r), []) := fun s' h => hZ () s' trivial h
        simp only [List.any_cons, Bool.not_or]
        simp [head99k, c99b2, hk2]
        refine (loop_list a.wants (fun j (_ : Unit) => head99j ps m i a k j) (fun _ _ => True) (fun _ u _ => (.bool (!(u.any fun w => b.wants.any (cw w)) && (!(t.any fun q => a.wants.any fun w => q.wants.any (cw w)) && placesGo (ps.take i ++ [a]) r)), [])) (fun acc V _ => ?_) (fun jj w u acc V hv hjj hu _ hV => ?_) () ?_ trivial ?_).trans (by simp [Bool.and_assoc])
        · simp [head99j, c99b1]
          exact (hZ' _ (by simp [head99k, hwk])).trans (by simp)
        · have hwj : IntKind.i64.wrap ((jj : Int) + 1) = (jj : Int) + 1 := i64w (by omega) (by omega)
          obtain ⟨_, hgw⟩ := List.getElem?_eq_some_iff.1 hv
          have hV' : ∀ s', s'.norm [0, 3, 4, 5, 6] = head99j ps m i a k (jj + 1) → fin [CRes.tmp 2] 0 (V s') = some (.bool (!(u.any fun w => b.wants.any (cw w)) && (!(t.any fun q => a.wants.any fun w => q.wants.any (cw w)) && placesGo (ps.take i ++ [a]) r)), []) := fun s' h => hV () s' trivial h
          simp only [List.any_cons, Bool.not_or]
          simp [head99j, c99b1, hjj]
          refine (loop_list b.wants (fun n (_ : Unit) => head99n ps m i a k jj n) (fun _ _ => True) (fun _ x _ => (.bool (!(x.any (cw w)) && (!(u.any fun w => b.wants.any (cw w)) && (!(t.any fun q => a.wants.any fun w => q.wants.any (cw w)) && placesGo (ps.take i ++ [a]) r))), [])) (fun acc U _ => ?_) (fun n y x acc U hy hn hx _ hU => ?_) () ?_ trivial ?_).trans (by simp [Bool.and_assoc])
          · simp [head99n, c99b0, hkl, hgb]
            exact (hV' _ (by simp [head99j, hwj])).trans (by simp)
          · have hwn : IntKind.i64.wrap ((n : Int) + 1) = (n : Int) + 1 := i64w (by omega) (by omega)
            obtain ⟨_, hgy⟩ := List.getElem?_eq_some_iff.1 hy
            simp only [List.any_cons, Bool.not_or]
            simp [head99n, c99b0, hkl, hgb, hn, hgy, hjj, hgw, cw]
            cases e1 : sEq w.hold ⟨#[]⟩ <;> cases e2 : sEq w.hold y.hold <;> simp
            all_goals exact (hU () _ trivial (by simp [head99n, hwn])).trans (by simp [cw, e1])
          · simp [head99n]
          · unfold big; omega
        · simp [head99j]
        · unfold big; omega
      · simp [head99k]
      · simp; unfold big; omega
    · simp [head99, c99b3, placesGo, hg, hi, ascP, hp, hw1, hj, hlast, placeOk, w7]
      cases q7 : isName a.berth <;> simp
      cases q8 : inR a.seen 1 1000000 <;> simp
      cases q9 : wantsOk a.wants <;> simp
      cases q10 : sLt ps[j].berth a.berth <;> simp
      rw [← freshP_any]
      refine (loop_list (ps.take i) (fun k (_ : Unit) => head99k ps m i a k) (fun _ _ => True) (fun _ t _ => (.bool (!(t.any fun q => a.wants.any fun w => q.wants.any (cw w)) && placesGo (ps.take i ++ [a]) r), [])) (fun acc Z _ => ?_) (fun k b t acc Z hb hk ht _ hZ => ?_) () ?_ trivial ?_).trans rfl
      · have hlen : (ps.take i).length = i := by simp; omega
        rw [hlen]
        simp [head99k, c99b2]
        exact hY' _ (by simp [head99, hw])
      · have hk2 : k < i := by simp at hk; omega
        have hwk : IntKind.i64.wrap ((k : Int) + 1) = (k : Int) + 1 := i64w (by omega) (by omega)
        have hb2 : ps[k]? = some b := by rw [List.getElem?_take, if_pos hk2] at hb; exact hb
        obtain ⟨hkl, hgb⟩ := List.getElem?_eq_some_iff.1 hb2
        have hbw := (he b (List.mem_of_getElem? hb2)).wants
        have hZ' : ∀ s', s'.norm [0, 3, 4, 5] = head99k ps m i a (k + 1) → fin [CRes.tmp 2] 0 (Z s') = some (.bool (!(t.any fun q => a.wants.any fun w => q.wants.any (cw w)) && placesGo (ps.take i ++ [a]) r), []) := fun s' h => hZ () s' trivial h
        simp only [List.any_cons, Bool.not_or]
        simp [head99k, c99b2, hk2]
        refine (loop_list a.wants (fun j (_ : Unit) => head99j ps m i a k j) (fun _ _ => True) (fun _ u _ => (.bool (!(u.any fun w => b.wants.any (cw w)) && (!(t.any fun q => a.wants.any fun w => q.wants.any (cw w)) && placesGo (ps.take i ++ [a]) r)), [])) (fun acc V _ => ?_) (fun jj w u acc V hv hjj hu _ hV => ?_) () ?_ trivial ?_).trans (by simp [Bool.and_assoc])
        · simp [head99j, c99b1]
          exact (hZ' _ (by simp [head99k, hwk])).trans (by simp)
        · have hwj : IntKind.i64.wrap ((jj : Int) + 1) = (jj : Int) + 1 := i64w (by omega) (by omega)
          obtain ⟨_, hgw⟩ := List.getElem?_eq_some_iff.1 hv
          have hV' : ∀ s', s'.norm [0, 3, 4, 5, 6] = head99j ps m i a k (jj + 1) → fin [CRes.tmp 2] 0 (V s') = some (.bool (!(u.any fun w => b.wants.any (cw w)) && (!(t.any fun q => a.wants.any fun w => q.wants.any (cw w)) && placesGo (ps.take i ++ [a]) r)), []) := fun s' h => hV () s' trivial h
          simp only [List.any_cons, Bool.not_or]
          simp [head99j, c99b1, hjj]
          refine (loop_list b.wants (fun n (_ : Unit) => head99n ps m i a k jj n) (fun _ _ => True) (fun _ x _ => (.bool (!(x.any (cw w)) && (!(u.any fun w => b.wants.any (cw w)) && (!(t.any fun q => a.wants.any fun w => q.wants.any (cw w)) && placesGo (ps.take i ++ [a]) r))), [])) (fun acc U _ => ?_) (fun n y x acc U hy hn hx _ hU => ?_) () ?_ trivial ?_).trans (by simp [Bool.and_assoc])
          · simp [head99n, c99b0, hkl, hgb]
            exact (hV' _ (by simp [head99j, hwj])).trans (by simp)
          · have hwn : IntKind.i64.wrap ((n : Int) + 1) = (n : Int) + 1 := i64w (by omega) (by omega)
            obtain ⟨_, hgy⟩ := List.getElem?_eq_some_iff.1 hy
            simp only [List.any_cons, Bool.not_or]
            simp [head99n, c99b0, hkl, hgb, hn, hgy, hjj, hgw, cw]
            cases e1 : sEq w.hold ⟨#[]⟩ <;> cases e2 : sEq w.hold y.hold <;> simp
            all_goals exact (hU () _ trivial (by simp [head99n, hwn])).trans (by simp [cw, e1])
          · simp [head99n]
          · unfold big; omega
        · simp [head99j]
        · unfold big; omega
      · simp [head99k]
      · simp; unfold big; omega
  · simp [head99]
  · unfold big; omega

def head24 (l : Land) (m : Md) (i : Nat) : St := hd [(1, .ptr 0 0 0), (3, .int .i64 i)] [.box (l.c .bor m)] 0

theorem prevOr {α : Type} {xs : List α} {i : Nat} (hi : i < xs.length) (hm : xs.length ≤ 9223372036854775807) : (¬ 0 < i ∧ (xs.take i).getLast? = none) ∨ ∃ j : Nat, 0 < i ∧ IntKind.i64.wrap ((i : Int) - 1) = (j : Int) ∧ ∃ h : j < xs.length, (xs.take i).getLast? = some (xs[j]'h) := by
  by_cases hz : i = 0
  · left; exact ⟨by omega, by rw [hz]; rfl⟩
  · right; exact prev hi hm hz

theorem law24 (l : Land) (m : Md) (hl : l.small) : F 24 [.agg (l.c .bor m)] [] = some (.bool (landOk l), []) := by
  refine F_run fn24 rfl ?_
  obtain ⟨s1, s2, s3⟩ := hl
  have w99 := law99 l.places m s2 s3
  simp [c24, landOk]
  cases q1 : inR l.time 0 2000000 <;> simp
  by_cases q2 : l.time.tmod 2 = 0
  case neg => simp [q2]
  simp [q2]
  by_cases q3 : l.grants.length ≤ 40
  case neg =>
    have q3' : ¬ ((l.grants.length : Int) ≤ 40) := by omega
    have q32 : 40 < (l.grants.length : Int) := by omega
    simp [q3, q3', q32]
  have q3' : (l.grants.length : Int) ≤ 40 := by omega
  have q32 : ¬ (40 < (l.grants.length : Int)) := by omega
  simp [q3, q3', q32]
  refine (loop_list l.grants (fun i (_ : Unit) => head24 l m i) (fun _ _ => True) (fun i r _ => (.bool (grantsGo l.time (l.grants.take i) r && (decide (l.places.length ≤ 4) && placesGo [] l.places)), [])) (fun acc Y _ => ?_) (fun i a r acc Y ha hi hr _ hY => ?_) () ?_ trivial ?_).trans ?_
  · simp [head24, c24b0, grantsGo, w99]
  · have hw : IntKind.i64.wrap ((i : Int) + 1) = (i : Int) + 1 := i64w (by omega) (by omega)
    obtain ⟨_, hg⟩ := List.getElem?_eq_some_iff.1 ha
    have hs := take_snoc ha
    have hY' : ∀ s', s'.norm [1, 3] = head24 l m (i + 1) → fin [CRes.tmp 2] 0 (Y s') = some (.bool (grantsGo l.time (l.grants.take i ++ [a]) r && (decide (l.places.length ≤ 4) && placesGo [] l.places)), []) := fun s' h => by rw [← hs]; exact hY () s' trivial h
    rcases prevOr hi (by omega) with ⟨hp, hlast⟩ | ⟨j, hp, hw1, hj, hlast⟩
    · simp [head24, c24b0, grantsGo, hg, hi, ascG, hp, hlast, grantOk]
      cases r1 : isHold a.hold <;> simp
      cases r2 : isName a.berth <;> simp
      cases r3 : isName a.copy <;> simp
      cases r4 : inR a.at_ 0 1000000 <;> simp
      cases r5 : inR a.til 0 (IntKind.i64.wrap (l.time + 32)) <;> simp
      exact (hY' _ (by simp [head24, hw])).trans (by simp)
    · simp [head24, c24b0, grantsGo, hg, hi, ascG, hp, hw1, hj, hlast, grantOk]
      cases r1 : isHold a.hold <;> simp
      cases r2 : isName a.berth <;> simp
      cases r3 : isName a.copy <;> simp
      cases r4 : inR a.at_ 0 1000000 <;> simp
      cases r5 : inR a.til 0 (IntKind.i64.wrap (l.time + 32)) <;> simp
      cases r6 : sLt l.grants[j].hold a.hold <;> simp
      exact (hY' _ (by simp [head24, hw])).trans (by simp)
  · simp [head24]
  · unfold big; omega
  · simp
    cases grantsGo l.time [] l.grants <;> simp
end Go.Proofs.Ytojihfiloldkgaa
