/- Layer 4: what a mate takes. -/
import Derived.Test.YtgeingajanamnaaA5
import Derived.Test.YtgeingajanamnaaE3
namespace Go.Proofs.Ytgeingajanamnaa
open Go
set_option linter.unusedSimpArgs false
set_option maxRecDepth 100000

theorem askAtGo_spec (h : T) : ∀ (l : List Ask) (i : Nat), (askAtGo h l i = -1 ∧ ∀ a ∈ l, sEq a.hold h = false) ∨ ∃ k, ∃ hk : k < l.length, askAtGo h l i = ((i + k : Nat) : Int) ∧ sEq (l[k]'hk).hold h = true ∧ ∀ j (hj : j < k), sEq (l[j]'(by omega)).hold h = false
  | [], i => .inl ⟨rfl, by simp⟩
  | a :: l, i => by
    simp only [askAtGo]
    by_cases q : sEq a.hold h = true
    · right
      refine ⟨0, by simp, by rw [if_pos q]; rfl, by simpa using q, fun j hj => absurd hj (Nat.not_lt_zero _)⟩
    · rw [if_neg q]
      rcases askAtGo_spec h l (i + 1) with ⟨h1, h2⟩ | ⟨k, hk, h1, h2, h3⟩
      · left
        refine ⟨h1, fun b hb => ?_⟩
        rcases List.mem_cons.1 hb with rfl | hb
        · simpa using q
        · exact h2 b hb
      · right
        refine ⟨k + 1, by simpa using hk, by rw [h1]; congr 1; omega, by simpa using h2, fun j hj => ?_⟩
        rcases j with _ | j
        · simpa using q
        · simpa using h3 j (by omega)

theorem askAt_spec (l : List Ask) (h : T) : (askAt l h = -1 ∧ ∀ a ∈ l, sEq a.hold h = false) ∨ ∃ k, ∃ hk : k < l.length, askAt l h = (k : Int) ∧ sEq (l[k]'hk).hold h = true ∧ ∀ j (hj : j < k), sEq (l[j]'(by omega)).hold h = false := by
  have := askAtGo_spec h l 0
  simpa [askAt] using this

def dropAt (l : List Ask) (i : Nat) : List Ask := l.take i ++ l.drop (i + 1)
def dropHold (l : List Ask) (h : T) : List Ask := l.filter fun a => !sEq a.hold h

theorem law137 (l : List Ask) (i : Nat) (hi : i < l.length) (hl : l.length ≤ 1048576) : F 137 [.sl .bor 4 (l.map Ask.c), .int .i64 i] [] = some (.sl .own 4 ((dropAt l i).map Ask.c), []) := by
  refine F_run fn137 rfl ?_
  have hw : IntKind.i64.wrap ((i : Int) + 1) = ((i + 1 : Nat) : Int) := i64w (by omega) (by omega)
  have h1 : (i : Int) ≤ l.length := by omega
  have h2 : ((i + 1 : Nat) : Int) ≤ l.length := by omega
  have h3 : i ≤ l.length := by omega
  have h4 : i + 1 ≤ l.length := by omega
  have e1 : min i l.length = i := by omega
  have p1 : rowsPlain ((List.map Ask.c l).take i) = true := by rw [← List.map_take]; exact plain_ask _
  have p2 : rowsPlain ((List.map Ask.c l).drop (i + 1)) = true := by rw [← List.map_drop]; exact plain_ask _
  have b1 : i * 48 ≤ 140737488355328 := by omega
  have b2 : i ≤ 140737488355328 := by omega
  have b3 : (i + (l.length - (i + 1))) * 48 ≤ 140737488355328 := by omega
  have b4 : i + (l.length - (i + 1)) ≤ 140737488355328 := by omega
  have t2 : List.take (l.length - (i + 1)) (List.drop (i + 1) (List.map Ask.c l)) = List.drop (i + 1) (List.map Ask.c l) := List.take_of_length_le (by simp)
  simp only [show ((i + 1 : Nat) : Int) = (i : Int) + 1 from rfl] at *
  have t3 : ((i : Int) + 1).toNat = i + 1 := by omega
  have t4 : (0 : Int) ≤ (i : Int) + 1 := by omega
  simp [c137, slBounds, hw, h1, h2, h3, h4, t2, t3, t4, takeRows, p1, p2, e1, b1, b2, b3, b4, dropAt]
  done

def head136 (l : List Ask) (h : T) (i : Nat) (acc : List Ask) : St := hd [(0, .sl .bor 4 (l.map Ask.c)), (1, .str h), (5, .ref 0), (6, .int .i64 i)] [.arr 4 (acc.map Ask.c)] 0

theorem law136 (l : List Ask) (h : T) (hl : l.length ≤ 1048576) : F 136 [.sl .bor 4 (l.map Ask.c), .str h] [] = some (.sl .own 4 ((dropHold l h).map Ask.c), []) := by
  refine F_run fn136 rfl ?_
  simp [c136]
  refine (loop_list l (fun i (acc : List Ask) => head136 l h i acc) (fun i acc => acc.length ≤ i) (fun _ r acc => (.sl .own 4 ((acc ++ dropHold r h).map Ask.c), [])) (fun acc Y hacc => ?_) (fun i a r acc Y ha hi hr hacc hY => ?_) [] ?_ (Nat.le_refl _) ?_).trans (by simp)
  · simp [head136, c136b0, dropHold]
  · have hw : IntKind.i64.wrap ((i : Int) + 1) = (i : Int) + 1 := i64w (by omega) (by omega)
    obtain ⟨_, hg⟩ := List.getElem?_eq_some_iff.1 ha
    have hb3 : (acc.length + 1) * 48 ≤ 140737488355328 := by omega
    have hb4 : acc.length + 1 ≤ 140737488355328 := by omega
    simp only [dropHold, List.filter_cons]
    simp [head136, c136b0, hi, hg, takeRows, rowsPlain, hb3, hb4]
    cases q : sEq a.hold h <;> simp
    · exact (hY (acc ++ [a]) _ (by simp; omega) (by simp [head136, hw])).trans (by simp [dropHold])
    · exact (hY acc _ (by omega) (by simp [head136, hw])).trans (by simp [dropHold])
  · simp [head136]
  · unfold big; omega

/-- Of asks that are ok, that of one hold is one. -/
theorem asksGo_lt {c : Int} : ∀ (r pre : List Ask), asksGo c pre r = true → (∀ p, pre.getLast? = some p → ∀ q ∈ pre, q = p ∨ sLt q.hold p.hold = true) → ∀ a ∈ r, ∀ q ∈ pre, sLt q.hold a.hold = true
  | [], _, _, _, a, ha => by simp at ha
  | b :: r, pre, h, hp, a, ha => by
    simp only [asksGo, Bool.and_eq_true] at h
    obtain ⟨_, h2, h3⟩ := h
    have hb : ∀ q ∈ pre, sLt q.hold b.hold = true := by
      intro q hq
      unfold ascA at h2
      cases hl : pre.getLast? with
      | none => rw [List.getLast?_eq_none_iff] at hl; rw [hl] at hq; simp at hq
      | some p =>
        rw [hl] at h2
        rcases hp p hl q hq with rfl | h4
        · exact h2
        · exact sLt_trans h4 h2
    rcases List.mem_cons.1 ha with rfl | ha
    · exact hb
    · intro q hq
      refine asksGo_lt r (pre ++ [b]) h3 ?_ a ha q (List.mem_append.2 (.inl hq))
      intro p hpl q hq
      rw [List.getLast?_concat] at hpl
      obtain rfl := Option.some.inj hpl
      rcases List.mem_append.1 hq with hq | hq
      · exact .inr (hb q hq)
      · simp at hq; exact .inl hq

theorem asks_sorted {c : Int} {l : List Ask} (h : asksOk l c = true) : l.Pairwise fun a b => sLt a.hold b.hold = true := by
  unfold asksOk at h
  rw [Bool.and_eq_true] at h
  have go : ∀ (r pre : List Ask), asksGo c pre r = true → (∀ p, pre.getLast? = some p → ∀ q ∈ pre, q = p ∨ sLt q.hold p.hold = true) → r.Pairwise fun a b => sLt a.hold b.hold = true := by
    intro r
    induction r with
    | nil => intro _ _ _; exact .nil
    | cons b r ih =>
      intro pre hg hp
      have hg0 := hg
      simp only [asksGo, Bool.and_eq_true] at hg
      obtain ⟨_, h2, h3⟩ := hg
      have hlast : ∀ p, (pre ++ [b]).getLast? = some p → ∀ q ∈ pre ++ [b], q = p ∨ sLt q.hold p.hold = true := by
        intro p hpl q hq
        rw [List.getLast?_concat] at hpl
        obtain rfl := Option.some.inj hpl
        rcases List.mem_append.1 hq with hq | hq
        · exact .inr (asksGo_lt (b :: r) pre hg0 hp b List.mem_cons_self q hq)
        · simp at hq; exact .inl hq
      refine List.pairwise_cons.2 ⟨fun a ha => ?_, ih _ h3 hlast⟩
      exact asksGo_lt r (pre ++ [b]) h3 hlast a ha b (by simp)
  exact go l [] h.2 (by simp)

theorem drop_same {c : Int} {l : List Ask} (h : asksOk l c = true) {k : Nat} (hk : k < l.length) : dropHold l l[k].hold = dropAt l k := by
  have hs := asks_sorted h
  have e : l = l.take k ++ l[k] :: l.drop (k + 1) := by rw [← List.drop_eq_getElem_cons hk, List.take_append_drop]
  generalize hx : l[k] = x at e
  rw [e] at hs
  obtain ⟨_, h2, h3⟩ := List.pairwise_append.1 hs
  rw [List.pairwise_cons] at h2
  unfold dropHold dropAt
  have f1 : (l.take k).filter (fun a => !sEq a.hold x.hold) = l.take k := by
    rw [List.filter_eq_self]
    intro a ha
    rw [sEq_ne (sLt_ne (h3 a ha x List.mem_cons_self))]; rfl
  have f2 : (l.drop (k + 1)).filter (fun a => !sEq a.hold x.hold) = l.drop (k + 1) := by
    rw [List.filter_eq_self]
    intro a ha
    rw [sEq_ne (Ne.symm (sLt_ne (h2.1 a ha)))]; rfl
  calc l.filter (fun a => !sEq a.hold x.hold) = (l.take k ++ x :: l.drop (k + 1)).filter (fun a => !sEq a.hold x.hold) := by rw [← e]
    _ = _ := by rw [List.filter_append, List.filter_cons, f1, f2]; simp

def giveRun (p : Parcel) (r : Run) : Run := if sEq r.want.hold p.hold && (sEq r.want.copy p.copy && decide (r.til < IntKind.i64.wrap (p.at_ + 16))) then { r with til := IntKind.i64.wrap (p.at_ + 16) } else r
/-- Is this ask that for which something is given? -/
def askFits (a : Ask) (p : Parcel) : Bool := sEq a.copy p.copy && (decide (a.first ≤ p.at_) && decide (p.at_ ≤ a.at_))
def takeGiven (m : Mate) (p : Parcel) : Mate := match m.asks.find? (fun a => sEq a.hold p.hold) with
  | some a => if askFits a p then { m with runs := m.runs.map (giveRun p) } else m
  | none => m
def takeBack' (m : Mate) (p : Parcel) : Mate := match m.gives.find? (fun a => sEq a.hold p.hold) with
  | some a => if a.at_ == p.at_ then { m with gives := dropHold m.gives p.hold } else m
  | none => m
def takeTold (m : Mate) (p : Parcel) : Mate := if (!m.known || decide (m.seen < p.seen)) && (wantsOk p.wants && inR p.seen 1 1000000) then { m with known := true, seen := p.seen, wants := p.wants } else m
def takeKind (m : Mate) (p : Parcel) : Mate := if p.kind = 1 then takeTold m p else if p.kind = 3 then takeGiven m p else if p.kind = 5 then takeBack' m p else m
def mateTake (m : Mate) (p : Parcel) : Mate := if mateValid m then (if m.up && sEq p.berth m.name then takeKind m p else m) else .zero

theorem find_at {l : List Ask} {h : T} {k : Nat} (hk : k < l.length) (h1 : sEq l[k].hold h = true) (h2 : ∀ j (hj : j < k), sEq (l[j]'(by omega)).hold h = false) : l.find? (fun a => sEq a.hold h) = some l[k] := by
  rw [List.find?_eq_some_iff_getElem]
  refine ⟨h1, k, hk, rfl, fun j hj => ?_⟩
  rw [h2 j hj]; rfl

def head61 (m : Mate) (p : Parcel) (i : Nat) : St := hd [(2, .ptr 0 0 0), (3, .ptr 1 0 0), (4, .ptr 2 0 0), (101, .ref 3), (102, .int .i64 m.runs.length), (103, .int .i64 i)]
  [.box [.str m.name, .bool m.up, .int .i64 m.clock, .bool m.known, .int .i64 m.seen, .ref 4, .ref 3, .ref 5, .ref 6], .box (p.c .bor), .box zeroCells, .arr 11 (mixU Run.c m.runs (m.runs.map (giveRun p)) i), .arr 7 (m.wants.map Want.c), .arr 4 (m.asks.map Ask.c), .arr 4 (m.gives.map Ask.c)] 0

theorem valid_asks {m : Mate} (h : mateValid m = true) : asksOk m.asks m.clock = true ∧ asksOk m.gives m.clock = true := by
  unfold mateValid mateParts at h
  simp only [Bool.and_eq_true] at h
  exact ⟨h.1.2.2.2.2.2.2.1, h.1.2.2.2.2.2.2.2⟩

theorem law61 (m : Mate) (p : Parcel) (hm : m.small) (hp : p.wants.length ≤ 1048576) : F 61 [.agg (m.c .bor), .agg (p.c .bor)] [] = some (.agg ((mateTake m p).c .own), []) := by
  refine F_run fn61 rfl ?_
  have w1 := law28 m hm
  have w2 := law117 m hm
  simp only [Mate.c] at w1 w2
  have hr := hm.runs
  simp [c61, w1, mateTake]
  cases hv : mateValid m <;> simp
  · simp [Mate.zero]
  simp [w2]
  cases q1 : m.up <;> simp [q1]
  cases q2 : sEq p.berth m.name <;> simp [q1]
  unfold takeKind
  by_cases k1 : p.kind = 1
  · have w6 := law6 p.wants (by unfold big; omega)
    have e1 : p.wants.length * 72 ≤ 140737488355328 := by omega
    have e2 : p.wants.length ≤ 140737488355328 := by omega
    simp [k1, w6, takeTold, takeRows, e1, e2]
    cases q3 : m.known <;> simp [q1, q3]
    · cases q5 : wantsOk p.wants <;> simp [q1, q3]
      cases q6 : inR p.seen 1 1000000 <;> simp [q1, q3]
    · by_cases q4 : m.seen < p.seen <;> simp [q4, q1, q3]
      cases q5 : wantsOk p.wants <;> simp [q1, q3]
      cases q6 : inR p.seen 1 1000000 <;> simp [q1, q3]
  · by_cases k3 : p.kind = 3
    · have w113 := law113 m.asks p.hold hm.asks
      rcases askAt_spec m.asks p.hold with ⟨e, hno⟩ | ⟨k, hk, e, hk1, hk2⟩
      · have hf : m.asks.find? (fun a => sEq a.hold p.hold) = none := by
          rw [List.find?_eq_none]; intro a ha; rw [hno a ha]; simp
        simp [k1, k3, w113, takeGiven, e, hf, q1]
      · have hf := find_at hk hk1 hk2
        simp only [takeGiven, hf, askFits]
        simp [k1, k3, w113, e, hk]
        cases q3 : sEq m.asks[k].copy p.copy <;> simp [q1]
        by_cases q4 : p.at_ < m.asks[k].first
        · have q4' : ¬ (m.asks[k].first ≤ p.at_) := by omega
          simp [q4, q4', q1]
        have q4' : m.asks[k].first ≤ p.at_ := by omega
        simp [q4, q4']
        by_cases q5 : m.asks[k].at_ < p.at_
        · have q5' : ¬ (p.at_ ≤ m.asks[k].at_) := by omega
          simp [q5, q5', q1]
        have q5' : p.at_ ≤ m.asks[k].at_ := by omega
        simp [q5, q5']
        refine (loop_list m.runs (fun i (_ : Unit) => head61 m p i) (fun _ _ => True) (fun _ _ _ => (.agg (({ m with runs := m.runs.map (giveRun p) } : Mate).c .own), [])) (fun acc Y _ => ?_) (fun i a r acc Y ha hi hr _ hY => ?_) () ?_ trivial ?_).trans (by simp [q1])
        · simp [head61, c61b0, zeroCells, mixU_all, q1]
        · have hw : IntKind.i64.wrap ((i : Int) + 1) = (i : Int) + 1 := i64w (by omega) (by omega)
          obtain ⟨_, hga⟩ := List.getElem?_eq_some_iff.1 ha
          have hms : (m.runs.map (giveRun p))[i]? = some (giveRun p a) := by simp [ha]
          have hln := mixU_len Run.c (ws := m.runs) (ms := m.runs.map (giveRun p)) (i := i) (by simp) (by omega)
          have hg := mixU_at Run.c (ms := m.runs.map (giveRun p)) ha (by simp) (by rw [hln]; exact hi)
          have hs := mixU_set Run.c (ws := m.runs) hms (by simp)
          simp only [Run.c] at hg
          have hY' : ∀ s', s'.norm [2, 3, 4, 101, 102, 103] = head61 m p (i + 1) → fin [CRes.cell 4 9 true] 0 (Y s') = some (.agg (({ m with runs := m.runs.map (giveRun p) } : Mate).c .own), []) := fun s' h => hY () s' trivial h
          simp [head61, c61b0, zeroCells, hi, hln, hg]
          have hsame : giveRun p a = a → mixU Run.c m.runs (m.runs.map (giveRun p)) i = mixU Run.c m.runs (m.runs.map (giveRun p)) (i + 1) := fun h => mixU_same Run.c ha (by simp [ha, h]) (by simp)
          cases r1 : sEq a.want.hold p.hold <;> simp
          · have hs2 := hsame (by simp [giveRun, r1])
            exact (hY' _ (by simp [head61, hw, zeroCells, hs2, q1, k3])).trans (by simp [q1])
          cases r2 : sEq a.want.copy p.copy <;> simp
          · have hs2 := hsame (by simp [giveRun, r1, r2])
            exact (hY' _ (by simp [head61, hw, zeroCells, hs2, q1, k3])).trans (by simp [q1])
          by_cases r3 : a.til < IntKind.i64.wrap (p.at_ + 16) <;> simp [r3]
          · have hga2 : giveRun p a = { a with til := IntKind.i64.wrap (p.at_ + 16) } := by simp [giveRun, r1, r2, r3]
            rw [hga2] at hs
            simp only [Run.c] at hs
            exact (hY' _ (by simp [head61, hw, zeroCells, hs, q1, k3])).trans (by simp [q1])
          · have hs2 := hsame (by simp [giveRun, r1, r2, r3])
            exact (hY' _ (by simp [head61, hw, zeroCells, hs2, q1, k3])).trans (by simp [q1])
        · simp [head61, zeroCells, mixU_zero, q1, k3]
        · unfold big; omega
    · by_cases k5 : p.kind = 5
      · have w113 := law113 m.gives p.hold hm.gives
        rcases askAt_spec m.gives p.hold with ⟨e, hno⟩ | ⟨k, hk, e, hk1, hk2⟩
        · have hf : m.gives.find? (fun a => sEq a.hold p.hold) = none := by
            rw [List.find?_eq_none]; intro a ha; rw [hno a ha]; simp
          simp [k1, k3, k5, w113, takeBack', e, hf, q1]
        · have hf := find_at hk hk1 hk2
          have w137 := law137 m.gives k hk hm.gives
          have hd := drop_same (valid_asks hv).2 hk
          rw [(sEq_iff _ _).1 hk1] at hd
          simp only [takeBack', hf]
          simp [k1, k3, k5, w113, e, hk]
          by_cases q3 : m.gives[k].at_ = p.at_
          · simp [q3, w137, hd, q1]
          · simp [q3, q1]
      · simp [k1, k3, k5, q1]

def head64 (m : Mate) (p : Parcel) (i : Nat) : St := hd [(3, .ptr 0 0 0), (4, .ptr 1 0 0), (5, .ptr 2 0 0), (7, .int .i64 i)]
  [.box (p.c .bor), .box zeroCells, .box [.str m.name, .bool m.up, .int .i64 m.clock, .bool m.known, .int .i64 m.seen, .ref 3, .ref 4, .ref 5, .ref 6], .arr 7 (m.wants.map Want.c), .arr 11 (mixU Run.c m.runs (m.runs.map (giveRun p)) i), .arr 4 (m.asks.map Ask.c), .arr 4 (m.gives.map Ask.c)] 0

theorem law64 (m : Mate) (p : Parcel) (hm : m.small) (hp : p.wants.length ≤ 1048576) : F 64 [.agg (m.c .bor), .agg (p.c .bor)] [] = some (.agg ((mateTake m p).c .own), []) := by
  refine F_run fn64 rfl ?_
  have w1 := law29 m hm
  have w2 := law120 m hm
  simp only [Mate.c] at w1 w2
  have hr := hm.runs
  simp [c64, w1, mateTake]
  cases hv : mateValid m <;> simp
  · simp [Mate.zero]
  simp [w2]
  cases q1 : m.up <;> simp [q1]
  cases q2 : sEq p.berth m.name <;> simp [q1]
  unfold takeKind
  by_cases k1 : p.kind = 1
  · have w6 := law7 p.wants (by unfold big; omega)
    have e1 : p.wants.length * 72 ≤ 140737488355328 := by omega
    have e2 : p.wants.length ≤ 140737488355328 := by omega
    simp [k1, w6, takeTold, takeRows, e1, e2]
    cases q5 : wantsOk p.wants <;> simp [q1]
    cases q6 : inR p.seen 1 1000000 <;> simp [q1]
    cases q3 : m.known <;> simp [q1, q3]
    by_cases q4 : m.seen < p.seen <;> simp [q4, q1, q3]
  · by_cases k3 : p.kind = 3
    · have w113 := law110 m.asks p.hold hm.asks
      rcases askAt_spec m.asks p.hold with ⟨e, hno⟩ | ⟨k, hk, e, hk1, hk2⟩
      · have hf : m.asks.find? (fun a => sEq a.hold p.hold) = none := by
          rw [List.find?_eq_none]; intro a ha; rw [hno a ha]; simp
        simp [k1, k3, w113, takeGiven, e, hf, q1]
      · have hf := find_at hk hk1 hk2
        simp only [takeGiven, hf, askFits]
        simp [k1, k3, w113, e, hk, inR]
        cases q3 : sEq m.asks[k].copy p.copy <;> simp [q1]
        by_cases q4 : p.at_ < m.asks[k].first
        · have q4' : ¬ (m.asks[k].first ≤ p.at_) := by omega
          simp [q4, q4', q1]
        have q4' : m.asks[k].first ≤ p.at_ := by omega
        simp [q4, q4']
        by_cases q5 : m.asks[k].at_ < p.at_
        · have q5' : ¬ (p.at_ ≤ m.asks[k].at_) := by omega
          simp [q5, q5', q1]
        have q5' : p.at_ ≤ m.asks[k].at_ := by omega
        simp [q5, q5']
        refine (loop_list m.runs (fun i (_ : Unit) => head64 m p i) (fun _ _ => True) (fun _ _ _ => (.agg (({ m with runs := m.runs.map (giveRun p) } : Mate).c .own), [])) (fun acc Y _ => ?_) (fun i a r acc Y ha hi hr _ hY => ?_) () ?_ trivial ?_).trans (by simp [q1])
        · have hln := mixU_len Run.c (ws := m.runs) (ms := m.runs.map (giveRun p)) (i := m.runs.length) (by simp) (by omega)
          simp [head64, c64b0, zeroCells, hln]
          simp [mixU_all, q1]
        · have hw : IntKind.i64.wrap ((i : Int) + 1) = (i : Int) + 1 := i64w (by omega) (by omega)
          obtain ⟨_, hga⟩ := List.getElem?_eq_some_iff.1 ha
          have hms : (m.runs.map (giveRun p))[i]? = some (giveRun p a) := by simp [ha]
          have hln := mixU_len Run.c (ws := m.runs) (ms := m.runs.map (giveRun p)) (i := i) (by simp) (by omega)
          have hg := mixU_at Run.c (ms := m.runs.map (giveRun p)) ha (by simp) (by rw [hln]; exact hi)
          have hs := mixU_set Run.c (ws := m.runs) hms (by simp)
          simp only [Run.c] at hg
          have hY' : ∀ s', s'.norm [3, 4, 5, 7] = head64 m p (i + 1) → fin [CRes.cell 4 9 true] 0 (Y s') = some (.agg (({ m with runs := m.runs.map (giveRun p) } : Mate).c .own), []) := fun s' h => hY () s' trivial h
          simp [head64, c64b0, zeroCells, hi, hln, hg]
          have hsame : giveRun p a = a → mixU Run.c m.runs (m.runs.map (giveRun p)) i = mixU Run.c m.runs (m.runs.map (giveRun p)) (i + 1) := fun h => mixU_same Run.c ha (by simp [ha, h]) (by simp)
          cases r1 : sEq a.want.hold p.hold <;> simp
          · have hs2 := hsame (by simp [giveRun, r1])
            exact (hY' _ (by simp [head64, hw, zeroCells, hs2, q1, k3])).trans (by simp [q1])
          cases r2 : sEq a.want.copy p.copy <;> simp
          · have hs2 := hsame (by simp [giveRun, r1, r2])
            exact (hY' _ (by simp [head64, hw, zeroCells, hs2, q1, k3])).trans (by simp [q1])
          by_cases r3 : a.til < IntKind.i64.wrap (p.at_ + 16) <;> simp [r3]
          · have hga2 : giveRun p a = { a with til := IntKind.i64.wrap (p.at_ + 16) } := by simp [giveRun, r1, r2, r3]
            rw [hga2] at hs
            simp only [Run.c] at hs
            exact (hY' _ (by simp [head64, hw, zeroCells, hs, q1, k3])).trans (by simp [q1])
          · have hs2 := hsame (by simp [giveRun, r1, r2, r3])
            exact (hY' _ (by simp [head64, hw, zeroCells, hs2, q1, k3])).trans (by simp [q1])
        · simp [head64, zeroCells, mixU_zero, q1, k3]
        · unfold big; omega
    · by_cases k5 : p.kind = 5
      · have w113 := law110 m.gives p.hold hm.gives
        rcases askAt_spec m.gives p.hold with ⟨e, hno⟩ | ⟨k, hk, e, hk1, hk2⟩
        · have hf : m.gives.find? (fun a => sEq a.hold p.hold) = none := by
            rw [List.find?_eq_none]; intro a ha; rw [hno a ha]; simp
          simp [k1, k3, k5, w113, takeBack', e, hf, q1]
        · have hf := find_at hk hk1 hk2
          have w136 := law136 m.gives p.hold hm.gives
          simp only [takeBack', hf]
          simp [k1, k3, k5, w113, e, hk]
          by_cases q3 : m.gives[k].at_ = p.at_
          · simp [q3, w136, q1]
          · simp [q3, q1]
      · simp [k1, k3, k5, q1]
end Go.Proofs.Ytgeingajanamnaa
