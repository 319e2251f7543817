/- The laws' own helpers, on books. -/
import Derived.Test.YtdkjfpkfjkfpbaaE2
import Derived.Test.YtdkjfpkfjkfpbaaE6
import Derived.Test.YtdkjfpkfjkfpbaaA6
namespace Go.Proofs.Ytdkjfpkfjkfpbaa
open Go
set_option linter.unusedSimpArgs false
set_option maxRecDepth 100000

def szGrant (a : Grant) (l : Int) : Int := offs l [a.hold.size, a.berth.size, a.copy.size]
def szGrantGo : List Grant → Int → Int
  | [], l => l
  | w :: r, l => if szGrant w l < 0 then -1 else szGrantGo r (szGrant w l)
def szGrants (ws : List Grant) (l : Int) : Int := if off l ws.length < 0 then -1 else szGrantGo ws (off l ws.length)

theorem law146 (w : Grant) (l : Int) : F 146 [.agg w.c, .int .i64 l] [] = some (.int .i64 (szGrant w l), []) := by
  refine F_run fn146 rfl ?_
  simp [c146, szGrant, offs]
  by_cases h1 : IntKind.i64.wrap (l - w.hold.size) < 0
  · simp [h1, off_neg h1]
  rw [off_pos h1]
  by_cases h2 : IntKind.i64.wrap (IntKind.i64.wrap (l - w.hold.size) - w.berth.size) < 0
  · simp [h1, h2, off_neg h2]
  rw [off_pos h2]
  by_cases h3 : IntKind.i64.wrap (IntKind.i64.wrap (IntKind.i64.wrap (l - w.hold.size) - w.berth.size) - w.copy.size) < 0
  · simp [h1, h2, h3, off_neg h3]
  · simp [h1, h2, h3, off_pos h3]

theorem law148 (w : Grant) : F 148 [.agg w.c] [] = some (.agg w.c, []) := by
  refine F_run fn148 rfl ?_
  simp [c148]

theorem law150 (w : Grant) : F 150 [.agg w.c, .agg w.c] [] = some (.bool true, []) := by
  refine F_run fn150 rfl ?_
  simp [c150]

def headToGrant (ws : List Grant) (i : Nat) : St := hd [(0, .sl .bor 5 (ws.map Grant.c)), (3, .ref 0), (4, .int .i64 i)] [.arr 5 (fillU Grant.c [.str ⟨#[]⟩, .str ⟨#[]⟩, .str ⟨#[]⟩, .int .i64 0, .int .i64 0] ws i)] 0

theorem law104 (ws : List Grant) (hl : ws.length ≤ 1048576) : F 104 [.sl .bor 5 (ws.map Grant.c)] [] = some (.sl .own 5 (ws.map Grant.c), []) := by
  refine F_run fn104 rfl ?_
  have hb : (ws.length : Int) * 64 ≤ 140737488355328 := by omega
  simp [c104, hb]
  refine (loop_list ws (fun i (_ : Unit) => headToGrant ws i) (fun _ _ => True) (fun _ _ _ => (.sl .own 5 (ws.map Grant.c), [])) (fun acc Y _ => ?_) (fun i a r acc Y ha hi hr _ hY => ?_) () ?_ trivial ?_).trans rfl
  · simp [headToGrant, c104b0, fillU_all]
  · have hw : IntKind.i64.wrap ((i : Int) + 1) = (i : Int) + 1 := i64w (by omega) (by omega)
    obtain ⟨_, hg⟩ := List.getElem?_eq_some_iff.1 ha
    have h1 := law148 a
    simp only [Grant.c] at h1
    simp [headToGrant, c104b0, hi, hg, h1]
    rw [hY () _ trivial]
    have h2 := fillU_set Grant.c [.str ⟨#[]⟩, .str ⟨#[]⟩, .str ⟨#[]⟩, .int .i64 0, .int .i64 0] ha
    simp only [Grant.c] at h2
    simp [headToGrant, hw, h2]
  · simp [headToGrant, fillU_zero]
  · unfold big; omega


def headSzGrant (ws : List Grant) (l : Int) (i : Nat) : St := hd [(0, .sl .bor 5 (ws.map Grant.c)), (1, .int .i64 l), (5, .int .i64 i)] [] 0

theorem law98 (ws : List Grant) (l : Int) (hl : ws.length ≤ 9223372036854775807) (h0 : 0 ≤ l) (hx : l ≤ 1048576) : F 98 [.sl .bor 5 (ws.map Grant.c), .int .i64 l] [] = some (.int .i64 (szGrants ws l), []) := by
  refine F_run fn98 rfl ?_
  simp [c98, szGrants]
  by_cases h1 : IntKind.i64.wrap (l - ws.length) < 0
  · simp [h1, off_neg h1]
  · rw [off_pos h1]
    have h2 : ¬ (IntKind.i64.wrap (l - ws.length) < 0) := h1
    have hn : ws.length ≤ 1048576 := wrap_len h1 hl h0 hx
    simp [h1]
    refine (loop_list ws (fun i (l : Int) => headSzGrant ws l i) (fun _ _ => True) (fun _ r l => (.int .i64 (szGrantGo r l), [])) (fun acc Y _ => ?_) (fun i a r acc Y ha hi hr _ hY => ?_) _ ?_ trivial ?_).trans rfl
    · simp [headSzGrant, c98b0, szGrantGo]
    · have hw : IntKind.i64.wrap ((i : Int) + 1) = (i : Int) + 1 := i64w (by omega) (by omega)
      obtain ⟨_, hg⟩ := List.getElem?_eq_some_iff.1 ha
      have h1 := law146 a acc
      simp only [Grant.c] at h1
      simp [headSzGrant, c98b0, hi, hg, h1, szGrantGo]
      by_cases h3 : szGrant a acc < 0
      · simp [h3]
      · simp [h3]
        rw [hY _ _ trivial]
        simp [headSzGrant, hw]
    · simp [headSzGrant]
    · unfold big; omega


def headEqGrant (ws : List Grant) (i : Nat) : St := hd [(0, .sl .bor 5 (ws.map Grant.c)), (1, .sl .bor 5 (ws.map Grant.c)), (5, .int .i64 i)] [] 0

theorem law108 (ws : List Grant) (hl : ws.length < big) : F 108 [.sl .bor 5 (ws.map Grant.c), .sl .bor 5 (ws.map Grant.c)] [] = some (.bool true, []) := by
  refine F_run fn108 rfl ?_
  have hm : ws.length ≤ 9223372036854775807 := by unfold big at hl; omega
  simp [c108]
  refine (loop_list ws (fun i (_ : Unit) => headEqGrant ws i) (fun _ _ => True) (fun _ r l => (.bool true, [])) (fun acc Y _ => ?_) (fun i a r acc Y ha hi hr _ hY => ?_) () ?_ trivial ?_).trans rfl
  · simp [headEqGrant, c108b0]
  · have hw : IntKind.i64.wrap ((i : Int) + 1) = (i : Int) + 1 := i64w (by omega) (by omega)
    obtain ⟨_, hg⟩ := List.getElem?_eq_some_iff.1 ha
    have h1 := law150 a
    simp only [Grant.c] at h1
    simp [headEqGrant, c108b0, hi, hg, h1]
    rw [hY () _ trivial]
    simp [headEqGrant, hw]
  · simp [headEqGrant]
  · exact hl


theorem szGrant_le {w : Grant} {l : Int} (hw : w.wf) (h0 : 0 ≤ l) (hx : l ≤ 1048576) (h : 0 ≤ szGrant w l) : szGrant w l ≤ l := by
  unfold szGrant offs offs offs offs at *
  split at h
  · simp at h
  · rename_i h1
    have k1 := off_le h0 hw.hold (by omega) hx
    rw [if_neg h1]
    split at h
    · simp at h
    · rename_i h2
      have k2 := off_le (l := off l w.hold.size) (by omega) hw.berth (by omega) (by omega)
      rw [if_neg h2]
      split at h
      · simp at h
      · rename_i h3
        have k3 := off_le (l := off (off l w.hold.size) w.berth.size) (by omega) hw.copy (by omega) (by omega)
        rw [if_neg h3]
        omega

theorem szGrants_le {ws : List Grant} {l : Int} (hw : ListWf Grant.wf ws) (h0 : 0 ≤ l) (hx : l ≤ 1048576) (h : 0 ≤ szGrants ws l) : szGrants ws l ≤ l ∧ ws.length ≤ 1048576 := by
  have go : ∀ (ws : List Grant) (l : Int), (∀ w ∈ ws, w.wf) → 0 ≤ l → l ≤ 1048576 → 0 ≤ szGrantGo ws l → szGrantGo ws l ≤ l := by
    intro ws
    induction ws with
    | nil => intro l _ _ _ _; exact Int.le_refl _
    | cons w r ih =>
      intro l hw h0 hx h
      simp only [szGrantGo] at h ⊢
      split at h
      · simp at h
      · rename_i h1
        rw [if_neg h1]
        have k1 := szGrant_le (hw w List.mem_cons_self) h0 hx (by omega)
        have := ih _ (fun x hx => hw x (List.mem_cons_of_mem _ hx)) (by omega) (by omega) h
        omega
  unfold szGrants at *
  split at h
  · simp at h
  · rename_i h1
    have k1 := off_le h0 hw.len (by omega) hx
    rw [if_neg h1]
    have := go ws _ hw.all (by omega) (by omega) h
    omega

def zeroPlace : List AV := [.str ⟨#[]⟩, .int .i64 0, .sl .own 7 []]

theorem law149 (p : Place) (hp : p.small) : F 149 [.agg (p.c .bor)] [] = some (.agg (p.c .own), []) := by
  refine F_run fn149 rfl ?_
  simp [c149, law4 p.wants hp.wants]

theorem law151 (p : Place) (hp : p.small) : F 151 [.agg (p.c .bor), .agg (p.c .bor)] [] = some (.bool true, []) := by
  refine F_run fn151 rfl ?_
  have := hp.wants
  simp [c151, law5 p.wants (by unfold big; omega)]

def headToPlace (m : Md) (ws : List Place) (i : Nat) : St := hd [(0, .sl .bor 3 (ws.map (Place.c m))), (3, .ref 0), (4, .int .i64 i)] [.arr 3 (fillU (Place.c .own) zeroPlace ws i)] 0

theorem law103 (m : Md) (ws : List Place) (hl : ws.length ≤ 1048576) (he : ∀ p ∈ ws, p.small) : F 103 [.sl .bor 3 (ws.map (Place.c m))] [] = some (.sl .own 3 (ws.map (Place.c .own)), []) := by
  refine F_run fn103 rfl ?_
  have hb : (ws.length : Int) * 48 ≤ 140737488355328 := by omega
  simp [c103, hb]
  refine (loop_list ws (fun i (_ : Unit) => headToPlace m ws i) (fun _ _ => True) (fun _ _ _ => (.sl .own 3 (ws.map (Place.c .own)), [])) (fun acc Y _ => ?_) (fun i a r acc Y ha hi hr _ hY => ?_) () ?_ trivial ?_).trans rfl
  · simp [headToPlace, c103b0, fillU_all]
  · have hw : IntKind.i64.wrap ((i : Int) + 1) = (i : Int) + 1 := i64w (by omega) (by omega)
    obtain ⟨_, hg⟩ := List.getElem?_eq_some_iff.1 ha
    have h1 := law149 a (he a (List.mem_of_getElem? ha))
    simp only [Place.c] at h1
    have h2 := fillU_set (Place.c .own) zeroPlace ha
    simp only [Place.c] at h2
    simp [headToPlace, c103b0, hi, hg, h1, zeroPlace]
    rw [hY () _ trivial]
    simp [zeroPlace] at h2
    simp [headToPlace, hw, h2, zeroPlace]
  · simp [headToPlace, fillU_zero, zeroPlace]
  · unfold big; omega

def headEqPlace (m m' : Md) (ws : List Place) (i : Nat) : St := hd [(0, .sl .bor 3 (ws.map (Place.c m))), (1, .sl .bor 3 (ws.map (Place.c m'))), (5, .int .i64 i)] [] 0

theorem law107 (m m' : Md) (ws : List Place) (hl : ws.length < big) (he : ∀ p ∈ ws, p.small) : F 107 [.sl .bor 3 (ws.map (Place.c m)), .sl .bor 3 (ws.map (Place.c m'))] [] = some (.bool true, []) := by
  refine F_run fn107 rfl ?_
  have hm : ws.length ≤ 9223372036854775807 := by unfold big at hl; omega
  simp [c107]
  refine (loop_list ws (fun i (_ : Unit) => headEqPlace m m' ws i) (fun _ _ => True) (fun _ r l => (.bool true, [])) (fun acc Y _ => ?_) (fun i a r acc Y ha hi hr _ hY => ?_) () ?_ trivial ?_).trans rfl
  · simp [headEqPlace, c107b0]
  · have hw : IntKind.i64.wrap ((i : Int) + 1) = (i : Int) + 1 := i64w (by omega) (by omega)
    obtain ⟨_, hg⟩ := List.getElem?_eq_some_iff.1 ha
    have h1 := law151 a (he a (List.mem_of_getElem? ha))
    simp only [Place.c] at h1
    simp [headEqPlace, c107b0, hi, hg, h1]
    rw [hY () _ trivial]
    simp [headEqPlace, hw]
  · simp [headEqPlace]
  · exact hl

/-- A place's size: down, and what it says of the place. -/
theorem law147 (p : Place) (l : Int) (hw : p.wf) (h0 : 0 ≤ l) (hx : l ≤ 1048576) : ∃ r, F 147 [.agg (p.c .bor), .int .i64 l] [] = some (.int .i64 r, []) ∧ (r < 0 ∨ (0 ≤ r ∧ r ≤ l ∧ p.small)) := by
  have hL : maxLen = 9223372036854775807 := rfl
  by_cases k1 : IntKind.i64.wrap (l - p.berth.size) < 0
  · refine ⟨-1, F_run fn147 rfl ?_, .inl (by omega)⟩
    simp [c147, k1]
  have e1 := off_le h0 hw.berth (by rw [off_pos k1]; omega) hx
  rw [off_pos k1] at e1
  generalize hl1 : IntKind.i64.wrap (l - p.berth.size) = l1 at k1 e1
  have w1 := law8 p.wants l1 (by have := hw.wants.len; omega) (by omega) (by omega)
  rcases Int.lt_or_le (szWants p.wants l1) 0 with k2 | k2
  · refine ⟨-1, F_run fn147 rfl ?_, .inl (by omega)⟩
    simp [c147, hl1, k1, w1, k2]
  have e2 := szWants_le hw.wants (by omega) (by omega) k2
  have k2' : ¬ (szWants p.wants l1 < 0) := by omega
  refine ⟨_, F_run fn147 rfl ?_, .inr ⟨k2, by omega, ⟨e2.2⟩⟩⟩
  simp [c147, hl1, k1, w1, k2']

noncomputable def szPlace (m : Md) (p : Place) (l : Int) : Int := match F 147 [.agg (p.c m), .int .i64 l] [] with
  | some (.int .i64 r, []) => r
  | _ => -1
theorem szPlace_is (p : Place) (l : Int) (hw : p.wf) (h0 : 0 ≤ l) (hx : l ≤ 1048576) : F 147 [.agg (p.c .bor), .int .i64 l] [] = some (.int .i64 (szPlace .bor p l), []) ∧ (szPlace .bor p l < 0 ∨ (0 ≤ szPlace .bor p l ∧ szPlace .bor p l ≤ l ∧ p.small)) := by
  obtain ⟨r, h1, h2⟩ := law147 p l hw h0 hx
  have : szPlace .bor p l = r := by unfold szPlace; rw [h1]
  rw [this]
  exact ⟨h1, h2⟩
noncomputable def szPlaceGo : List Place → Int → Int
  | [], l => l
  | w :: r, l => if szPlace .bor w l < 0 then -1 else szPlaceGo r (szPlace .bor w l)
noncomputable def szPlaces (ws : List Place) (l : Int) : Int := if off l ws.length < 0 then -1 else szPlaceGo ws (off l ws.length)

def headSzPlace (m : Md) (ws : List Place) (l : Int) (i : Nat) : St := hd [(0, .sl .bor 3 (ws.map (Place.c m))), (1, .int .i64 l), (5, .int .i64 i)] [] 0

theorem law97 (m : Md) (ws : List Place) (l : Int) (hw : ListWf Place.wf ws) (h0 : 0 ≤ l) (hx : l ≤ 1048576) : F 97 [.sl .bor 3 (ws.map (Place.c m)), .int .i64 l] [] = some (.int .i64 (szPlaces ws l), []) := by
  refine F_run fn97 rfl ?_
  have hl := hw.len
  have hL : maxLen = 9223372036854775807 := rfl
  simp [c97, szPlaces]
  by_cases h1 : IntKind.i64.wrap (l - ws.length) < 0
  · simp [h1, off_neg h1]
  · rw [off_pos h1]
    have hn : ws.length ≤ 1048576 := wrap_len h1 (by omega) h0 hx
    have hstart : IntKind.i64.wrap (l - ws.length) ≤ 1048576 := by rw [i64w (by omega) (by omega)]; omega
    simp [h1]
    refine (loop_list ws (fun i (l : Int) => headSzPlace m ws l i) (fun _ l => 0 ≤ l ∧ l ≤ 1048576) (fun _ r l => (.int .i64 (szPlaceGo r l), [])) (fun acc Y _ => ?_) (fun i a r acc Y ha hi hr hacc hY => ?_) _ ?_ ⟨by omega, hstart⟩ ?_).trans rfl
    · simp [headSzPlace, c97b0, szPlaceGo]
    · have hw1 : IntKind.i64.wrap ((i : Int) + 1) = (i : Int) + 1 := i64w (by omega) (by omega)
      obtain ⟨_, hg⟩ := List.getElem?_eq_some_iff.1 ha
      obtain ⟨h1, h2⟩ := szPlace_is a acc (hw.all a (List.mem_of_getElem? ha)) hacc.1 hacc.2
      simp only [Place.c] at h1
      simp [headSzPlace, c97b0, hi, hg, h1, szPlaceGo]
      by_cases h3 : szPlace .bor a acc < 0
      · simp [h3]
      · simp [h3]
        rw [hY (szPlace .bor a acc) _ ⟨by omega, by omega⟩]
        simp [headSzPlace, hw1]
    · simp [headSzPlace]
    · unfold big; omega

theorem szPlaces_le {ws : List Place} {l : Int} (hw : ListWf Place.wf ws) (h0 : 0 ≤ l) (hx : l ≤ 1048576) (h : 0 ≤ szPlaces ws l) : szPlaces ws l ≤ l ∧ ws.length ≤ 1048576 ∧ ∀ p ∈ ws, p.small := by
  have go : ∀ (ws : List Place) (l : Int), (∀ w ∈ ws, w.wf) → 0 ≤ l → l ≤ 1048576 → 0 ≤ szPlaceGo ws l → szPlaceGo ws l ≤ l ∧ ∀ p ∈ ws, p.small := by
    intro ws
    induction ws with
    | nil => intro l _ _ _ _; exact ⟨Int.le_refl _, by simp⟩
    | cons w r ih =>
      intro l hw h0 hx h
      simp only [szPlaceGo] at h ⊢
      split at h
      · simp at h
      · rename_i h1
        rw [if_neg h1]
        obtain ⟨_, k1⟩ := szPlace_is w l (hw w List.mem_cons_self) h0 hx
        rcases k1 with k1 | ⟨k1, k2, k3⟩
        · exact absurd k1 h1
        · have := ih _ (fun x hx => hw x (List.mem_cons_of_mem _ hx)) (by omega) (by omega) h
          exact ⟨by omega, fun p hp => by
            rcases List.mem_cons.1 hp with rfl | hp
            · exact k3
            · exact this.2 p hp⟩
  unfold szPlaces at *
  split at h
  · simp at h
  · rename_i h1
    have k1 := off_le h0 hw.len (by omega) hx
    rw [if_neg h1]
    have := go ws _ hw.all (by omega) (by omega) h
    exact ⟨by omega, k1.2, this.2⟩

theorem law25 (l : Land) (n : Int) (hw : l.wf) (h0 : 0 ≤ n) (hx : n ≤ 1048576) : ∃ r, F 25 [.agg (l.c .bor .bor), .int .i64 n] [] = some (.int .i64 r, []) ∧ (r < 0 ∨ (0 ≤ r ∧ r ≤ n ∧ l.small)) := by
  have hL : maxLen = 9223372036854775807 := rfl
  have w1 := law98 l.grants n (by have := hw.grants.len; omega) h0 hx
  rcases Int.lt_or_le (szGrants l.grants n) 0 with k1 | k1
  · refine ⟨-1, F_run fn25 rfl ?_, .inl (by omega)⟩
    simp [c25, w1, k1]
  have e1 := szGrants_le hw.grants h0 hx k1
  have k1' : ¬ (szGrants l.grants n < 0) := by omega
  have w2 := law97 .bor l.places (szGrants l.grants n) hw.places k1 (by omega)
  rcases Int.lt_or_le (szPlaces l.places (szGrants l.grants n)) 0 with k2 | k2
  · refine ⟨-1, F_run fn25 rfl ?_, .inl (by omega)⟩
    simp [c25, w1, k1', w2, k2]
  have e2 := szPlaces_le hw.places k1 (by omega) k2
  have k2' : ¬ (szPlaces l.places (szGrants l.grants n) < 0) := by omega
  refine ⟨_, F_run fn25 rfl ?_, .inr ⟨k2, by omega, e1.2, e2.2.1, e2.2.2⟩⟩
  simp [c25, w1, k1', w2, k2']

theorem law21 (m : Md) (l : Land) (hl : l.small) : F 21 [.agg (l.c .bor m)] [] = some (.agg (l.c .own .own), []) := by
  refine F_run fn21 rfl ?_
  simp [c21, law104 l.grants hl.grants, law103 m l.places hl.places hl.each]

theorem law22 (m m' : Md) (l : Land) (hl : l.small) : F 22 [.agg (l.c .bor m), .agg (l.c .bor m')] [] = some (.bool true, []) := by
  refine F_run fn22 rfl ?_
  have h1 := hl.grants
  have h2 := hl.places
  simp [c22, law108 l.grants (by unfold big; omega), law107 m m' l.places (by unfold big; omega) hl.each]
end Go.Proofs.Ytdkjfpkfjkfpbaa
