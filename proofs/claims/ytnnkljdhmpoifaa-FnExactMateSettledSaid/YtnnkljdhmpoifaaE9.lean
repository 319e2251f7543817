/- The laws' own helpers, on worlds. -/
import Derived.Test.YtnnkljdhmpoifaaE8
import Derived.Test.YtnnkljdhmpoifaaA8
namespace Go.Proofs.Ytnnkljdhmpoifaa
open Go
set_option linter.unusedSimpArgs false
set_option maxRecDepth 100000

/-! Lists of texts. -/
def rowT (s : T) : List AV := [.str s]
def headToT (ws : List T) (i : Nat) : St := hd [(0, .sl .bor 1 (ws.map fun s => [.str s])), (3, .ref 0), (4, .int .i64 i)] [.arr 1 (fillU rowT [.str ⟨#[]⟩] ws i)] 0

theorem law49 (ws : List T) (hl : ws.length ≤ 1048576) : F 49 [.sl .bor 1 (ws.map fun s => [.str s])] [] = some (.sl .own 1 (ws.map fun s => [.str s]), []) := by
  refine F_run fn49 rfl ?_
  have hb : (ws.length : Int) * 16 ≤ 140737488355328 := by omega
  simp [c49, hb]
  refine (loop_list ws (fun i (_ : Unit) => headToT ws i) (fun _ _ => True) (fun _ _ _ => (.sl .own 1 (ws.map fun s => [.str s]), [])) (fun acc Y _ => ?_) (fun i a r acc Y ha hi hr _ hY => ?_) () ?_ trivial ?_).trans rfl
  · simp [headToT, c49b0, fillU_all]
    intro a _; rfl
  · have hw : IntKind.i64.wrap ((i : Int) + 1) = (i : Int) + 1 := i64w (by omega) (by omega)
    obtain ⟨_, hg⟩ := List.getElem?_eq_some_iff.1 ha
    simp [headToT, c49b0, hi, hg]
    rw [hY () _ trivial]
    have h2 := fillU_set rowT [.str ⟨#[]⟩] ha
    simp only [rowT] at h2
    simp [headToT, hw, ← h2, rowT]
  · simp [headToT, fillU_zero]
  · unfold big; omega

def szTexts (ws : List T) (l : Int) : Int := if off l ws.length < 0 then -1 else offs (off l ws.length) (ws.map ByteArray.size)

def headSzT (ws : List T) (l : Int) (i : Nat) : St := hd [(0, .sl .bor 1 (ws.map fun s => [.str s])), (1, .int .i64 l), (5, .int .i64 i)] [] 0

theorem law55 (ws : List T) (l : Int) (hl : ws.length ≤ 9223372036854775807) (h0 : 0 ≤ l) (hx : l ≤ 1048576) : F 55 [.sl .bor 1 (ws.map fun s => [.str s]), .int .i64 l] [] = some (.int .i64 (szTexts ws l), []) := by
  refine F_run fn55 rfl ?_
  simp [c55, szTexts]
  by_cases h1 : IntKind.i64.wrap (l - ws.length) < 0
  · simp [h1, off_neg h1]
  · rw [off_pos h1]
    have hn : ws.length ≤ 1048576 := wrap_len h1 hl h0 hx
    simp [h1]
    refine (loop_list ws (fun i (l : Int) => headSzT ws l i) (fun _ _ => True) (fun _ r l => (.int .i64 (offs l (r.map ByteArray.size)), [])) (fun acc Y _ => ?_) (fun i a r acc Y ha hi hr _ hY => ?_) _ ?_ trivial ?_).trans rfl
    · simp [headSzT, c55b0, offs]
    · have hw : IntKind.i64.wrap ((i : Int) + 1) = (i : Int) + 1 := i64w (by omega) (by omega)
      obtain ⟨_, hg⟩ := List.getElem?_eq_some_iff.1 ha
      simp [headSzT, c55b0, hi, hg, offs]
      by_cases h3 : IntKind.i64.wrap (acc - a.size) < 0
      · simp [h3, off_neg h3]
      · rw [off_pos h3]
        simp [h3]
        rw [hY _ _ trivial]
        simp [headSzT, hw]
    · simp [headSzT]
    · unfold big; omega

theorem szTexts_le {ws : List T} {l : Int} (hw : ListWf (fun s : T => s.size ≤ maxLen) ws) (h0 : 0 ≤ l) (hx : l ≤ 1048576) (h : 0 ≤ szTexts ws l) : szTexts ws l ≤ l ∧ ws.length ≤ 1048576 := by
  have go : ∀ (ws : List T) (l : Int), (∀ w ∈ ws, w.size ≤ maxLen) → 0 ≤ l → l ≤ 1048576 → 0 ≤ offs l (ws.map ByteArray.size) → offs l (ws.map ByteArray.size) ≤ l := by
    intro ws
    induction ws with
    | nil => intro l _ _ _ _; exact Int.le_refl _
    | cons w r ih =>
      intro l hw h0 hx h
      simp only [List.map_cons, offs] at h ⊢
      split at h
      · simp at h
      · rename_i h1
        rw [if_neg h1]
        have k1 := off_le h0 (hw w List.mem_cons_self) (by omega) hx
        have := ih _ (fun x hx => hw x (List.mem_cons_of_mem _ hx)) (by omega) (by omega) h
        omega
  unfold szTexts at *
  split at h
  · simp at h
  · rename_i h1
    have k1 := off_le h0 hw.len (by omega) hx
    rw [if_neg h1]
    have := go ws _ hw.all (by omega) (by omega) h
    omega

def headEqT (ws : List T) (i : Nat) : St := hd [(0, .sl .bor 1 (ws.map fun s => [.str s])), (1, .sl .bor 1 (ws.map fun s => [.str s])), (5, .int .i64 i)] [] 0

theorem law53 (ws : List T) (hl : ws.length < big) : F 53 [.sl .bor 1 (ws.map fun s => [.str s]), .sl .bor 1 (ws.map fun s => [.str s])] [] = some (.bool true, []) := by
  refine F_run fn53 rfl ?_
  have hm : ws.length ≤ 9223372036854775807 := by unfold big at hl; omega
  simp [c53]
  refine (loop_list ws (fun i (_ : Unit) => headEqT ws i) (fun _ _ => True) (fun _ r l => (.bool true, [])) (fun acc Y _ => ?_) (fun i a r acc Y ha hi hr _ hY => ?_) () ?_ trivial ?_).trans rfl
  · simp [headEqT, c53b0]
  · have hw : IntKind.i64.wrap ((i : Int) + 1) = (i : Int) + 1 := i64w (by omega) (by omega)
    obtain ⟨_, hg⟩ := List.getElem?_eq_some_iff.1 ha
    simp [headEqT, c53b0, hi, hg]
    rw [hY () _ trivial]
    simp [headEqT, hw]
  · simp [headEqT]
  · exact hl

def zeroMate : List AV := [.str ⟨#[]⟩, .bool false, .int .i64 0, .bool false, .int .i64 0, .sl .own 7 [], .sl .own 11 [], .sl .own 4 [], .sl .own 4 []]
def headToMate (m : Md) (ws : List Mate) (i : Nat) : St := hd [(0, .sl .bor 9 (ws.map (Mate.c m))), (3, .ref 0), (4, .int .i64 i)] [.arr 9 (fillU (Mate.c .own) zeroMate ws i)] 0

theorem law135 (m : Md) (ws : List Mate) (hl : ws.length ≤ 1048576) (he : ∀ p ∈ ws, p.small) : F 135 [.sl .bor 9 (ws.map (Mate.c m))] [] = some (.sl .own 9 (ws.map (Mate.c .own)), []) := by
  refine F_run fn135 rfl ?_
  have hb : (ws.length : Int) * 144 ≤ 140737488355328 := by omega
  simp [c135, hb]
  refine (loop_list ws (fun i (_ : Unit) => headToMate m ws i) (fun _ _ => True) (fun _ _ _ => (.sl .own 9 (ws.map (Mate.c .own)), [])) (fun acc Y _ => ?_) (fun i a r acc Y ha hi hr _ hY => ?_) () ?_ trivial ?_).trans rfl
  · simp [headToMate, c135b0, fillU_all]
  · have hw : IntKind.i64.wrap ((i : Int) + 1) = (i : Int) + 1 := i64w (by omega) (by omega)
    obtain ⟨_, hg⟩ := List.getElem?_eq_some_iff.1 ha
    have h1 := law26 a (he a (List.mem_of_getElem? ha))
    simp only [Mate.c] at h1
    have h2 := fillU_set (Mate.c .own) zeroMate ha
    simp only [Mate.c] at h2
    simp [headToMate, c135b0, hi, hg, h1, zeroMate]
    rw [hY () _ trivial]
    simp [zeroMate] at h2
    simp [headToMate, hw, h2, zeroMate]
  · simp [headToMate, fillU_zero, zeroMate]
  · unfold big; omega

def headEqMate (m m' : Md) (ws : List Mate) (i : Nat) : St := hd [(0, .sl .bor 9 (ws.map (Mate.c m))), (1, .sl .bor 9 (ws.map (Mate.c m'))), (5, .int .i64 i)] [] 0

theorem law130 (m m' : Md) (ws : List Mate) (hl : ws.length < big) (he : ∀ p ∈ ws, p.small) : F 130 [.sl .bor 9 (ws.map (Mate.c m)), .sl .bor 9 (ws.map (Mate.c m'))] [] = some (.bool true, []) := by
  refine F_run fn130 rfl ?_
  have hm : ws.length ≤ 9223372036854775807 := by unfold big at hl; omega
  simp [c130]
  refine (loop_list ws (fun i (_ : Unit) => headEqMate m m' ws i) (fun _ _ => True) (fun _ r l => (.bool true, [])) (fun acc Y _ => ?_) (fun i a r acc Y ha hi hr _ hY => ?_) () ?_ trivial ?_).trans rfl
  · simp [headEqMate, c130b0]
  · have hw : IntKind.i64.wrap ((i : Int) + 1) = (i : Int) + 1 := i64w (by omega) (by omega)
    obtain ⟨_, hg⟩ := List.getElem?_eq_some_iff.1 ha
    have h1 := law27 a (he a (List.mem_of_getElem? ha))
    simp only [Mate.c] at h1
    simp [headEqMate, c130b0, hi, hg, h1]
    rw [hY () _ trivial]
    simp [headEqMate, hw]
  · simp [headEqMate]
  · exact hl

noncomputable def szMateX (m : Md) (p : Mate) (l : Int) : Int := match F 30 [.agg (p.c m), .int .i64 l] [] with
  | some (.int .i64 r, []) => r
  | _ => -1
theorem szMateX_is (p : Mate) (l : Int) (hw : p.wf) (h0 : 0 ≤ l) (hx : l ≤ 1048576) : F 30 [.agg (p.c .bor), .int .i64 l] [] = some (.int .i64 (szMateX .bor p l), []) ∧ (szMateX .bor p l < 0 ∨ (0 ≤ szMateX .bor p l ∧ szMateX .bor p l ≤ l ∧ p.small)) := by
  obtain ⟨r, h1, h2⟩ := law30 p l hw h0 hx
  have : szMateX .bor p l = r := by unfold szMateX; rw [h1]
  rw [this]
  exact ⟨h1, h2⟩
noncomputable def szMateGo : List Mate → Int → Int
  | [], l => l
  | w :: r, l => if szMateX .bor w l < 0 then -1 else szMateGo r (szMateX .bor w l)
noncomputable def szMates (ws : List Mate) (l : Int) : Int := if off l ws.length < 0 then -1 else szMateGo ws (off l ws.length)

def headSzMate (m : Md) (ws : List Mate) (l : Int) (i : Nat) : St := hd [(0, .sl .bor 9 (ws.map (Mate.c m))), (1, .int .i64 l), (5, .int .i64 i)] [] 0

theorem law134 (m : Md) (ws : List Mate) (l : Int) (hw : ListWf Mate.wf ws) (h0 : 0 ≤ l) (hx : l ≤ 1048576) : F 134 [.sl .bor 9 (ws.map (Mate.c m)), .int .i64 l] [] = some (.int .i64 (szMates ws l), []) := by
  refine F_run fn134 rfl ?_
  have hl := hw.len
  have hL : maxLen = 9223372036854775807 := rfl
  simp [c134, szMates]
  by_cases h1 : IntKind.i64.wrap (l - ws.length) < 0
  · simp [h1, off_neg h1]
  · rw [off_pos h1]
    have hn : ws.length ≤ 1048576 := wrap_len h1 (by omega) h0 hx
    have hstart : IntKind.i64.wrap (l - ws.length) ≤ 1048576 := by rw [i64w (by omega) (by omega)]; omega
    simp [h1]
    refine (loop_list ws (fun i (l : Int) => headSzMate m ws l i) (fun _ l => 0 ≤ l ∧ l ≤ 1048576) (fun _ r l => (.int .i64 (szMateGo r l), [])) (fun acc Y _ => ?_) (fun i a r acc Y ha hi hr hacc hY => ?_) _ ?_ ⟨by omega, hstart⟩ ?_).trans rfl
    · simp [headSzMate, c134b0, szMateGo]
    · have hw1 : IntKind.i64.wrap ((i : Int) + 1) = (i : Int) + 1 := i64w (by omega) (by omega)
      obtain ⟨_, hg⟩ := List.getElem?_eq_some_iff.1 ha
      obtain ⟨h1, h2⟩ := szMateX_is a acc (hw.all a (List.mem_of_getElem? ha)) hacc.1 hacc.2
      simp only [Mate.c] at h1
      simp [headSzMate, c134b0, hi, hg, h1, szMateGo]
      by_cases h3 : szMateX .bor a acc < 0
      · simp [h3]
      · simp [h3]
        rw [hY (szMateX .bor a acc) _ ⟨by omega, by omega⟩]
        simp [headSzMate, hw1]
    · simp [headSzMate]
    · unfold big; omega

theorem szMates_le {ws : List Mate} {l : Int} (hw : ListWf Mate.wf ws) (h0 : 0 ≤ l) (hx : l ≤ 1048576) (h : 0 ≤ szMates ws l) : szMates ws l ≤ l ∧ ws.length ≤ 1048576 ∧ ∀ p ∈ ws, p.small := by
  have go : ∀ (ws : List Mate) (l : Int), (∀ w ∈ ws, w.wf) → 0 ≤ l → l ≤ 1048576 → 0 ≤ szMateGo ws l → szMateGo ws l ≤ l ∧ ∀ p ∈ ws, p.small := by
    intro ws
    induction ws with
    | nil => intro l _ _ _ _; exact ⟨Int.le_refl _, by simp⟩
    | cons w r ih =>
      intro l hw h0 hx h
      simp only [szMateGo] at h ⊢
      split at h
      · simp at h
      · rename_i h1
        rw [if_neg h1]
        obtain ⟨_, k1⟩ := szMateX_is w l (hw w List.mem_cons_self) h0 hx
        rcases k1 with k1 | ⟨k1, k2, k3⟩
        · exact absurd k1 h1
        · have := ih _ (fun x hx => hw x (List.mem_cons_of_mem _ hx)) (by omega) (by omega) h
          exact ⟨by omega, fun p hp => by
            rcases List.mem_cons.1 hp with rfl | hp
            · exact k3
            · exact this.2 p hp⟩
  unfold szMates at *
  split at h
  · simp at h
  · rename_i h1
    have k1 := off_le h0 hw.len (by omega) hx
    rw [if_neg h1]
    have := go ws _ hw.all (by omega) (by omega) h
    exact ⟨by omega, k1.2, this.2⟩


theorem law59 (w : Wld) (n : Int) (hw : w.wf) (h0 : 0 ≤ n) (hx : n ≤ 1048576) : ∃ r, F 59 [.agg (w.c .bor .bor), .int .i64 n] [] = some (.int .i64 r, []) ∧ (r < 0 ∨ (0 ≤ r ∧ r ≤ n ∧ w.small)) := by
  have hL : maxLen = 9223372036854775807 := rfl
  obtain ⟨r1, w1, e1⟩ := law25 w.land n hw.land h0 hx
  simp only [Land.c] at w1
  rcases e1 with k1 | ⟨k1, e1, s1⟩
  · refine ⟨-1, F_run fn59 rfl ?_, .inl (by omega)⟩
    simp [c59, w1, k1]
  have k1' : ¬ (r1 < 0) := by omega
  have w2 := law134 .bor w.mates r1 hw.mates k1 (by omega)
  rcases Int.lt_or_le (szMates w.mates r1) 0 with k2 | k2
  · refine ⟨-1, F_run fn59 rfl ?_, .inl (by omega)⟩
    simp [c59, w1, k1', w2, k2]
  have e2 := szMates_le hw.mates k1 (by omega) k2
  have k2' : ¬ (szMates w.mates r1 < 0) := by omega
  have w3 := law55 w.flight (szMates w.mates r1) (by have := hw.flight.len; omega) k2 (by omega)
  rcases Int.lt_or_le (szTexts w.flight (szMates w.mates r1)) 0 with k3 | k3
  · refine ⟨-1, F_run fn59 rfl ?_, .inl (by omega)⟩
    simp [c59, w1, k1', w2, k2', w3, k3]
  have e3 := szTexts_le hw.flight k2 (by omega) k3
  have k3' : ¬ (szTexts w.flight (szMates w.mates r1) < 0) := by omega
  refine ⟨_, F_run fn59 rfl ?_, .inr ⟨k3, by omega, s1, e2.2.1, e2.2.2, e3.2⟩⟩
  simp [c59, w1, k1', w2, k2', w3, k3']

theorem law56 (m : Md) (w : Wld) (hw : w.small) : F 56 [.agg (w.c .bor m)] [] = some (.agg (w.c .own .own), []) := by
  refine F_run fn56 rfl ?_
  have w1 := law21 m w.land hw.land
  simp only [Land.c] at w1
  simp [c56, w1, law135 m w.mates hw.mates hw.each, law49 w.flight hw.flight]

theorem law48 (m m' : Md) (w : Wld) (hw : w.small) : F 48 [.agg (w.c .bor m), .agg (w.c .bor m')] [] = some (.bool true, []) := by
  refine F_run fn48 rfl ?_
  have w1 := law22 m m' w.land hw.land
  simp only [Land.c] at w1
  have h1 := hw.mates
  have h2 := hw.flight
  simp [c48, w1, law130 m m' w.mates (by unfold big; omega) hw.each, law53 w.flight (by unfold big; omega)]
end Go.Proofs.Ytnnkljdhmpoifaa
