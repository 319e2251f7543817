/- The laws' own helpers, on worlds. -/
import Derived.Test.YtojihfiloldkgaaE8
import Derived.Test.YtojihfiloldkgaaA8
namespace Go.Proofs.Ytojihfiloldkgaa
open Go
set_option linter.unusedSimpArgs false
set_option maxRecDepth 100000

/-! Lists of texts. -/
def rowT (s : T) : List AV := [.str s]
def headToT (ws : List T) (i : Nat) : St := hd [(0, .sl .bor 1 (ws.map fun s => [.str s])), (3, .ref 0), (4, .int .i64 i)] [.arr 1 (fillU rowT [.str ⟨#[]⟩] ws i)] 0

theorem law49 (ws : List T) (hl : ws.length ≤ 1048576) : F 49 [.sl .bor 1 (ws.map fun s => [.str s])] [] = some (.sl .own 1 (ws.map fun s => [.str s]), []) := by
  refine F_run fn49 rfl ?_
  have hb : (ws.length : Int) * 16 ≤ 140737488355328 := by omega
  simp [c49, hb]
  refine (loop_list ws (fun i (_ : Unit) => headToT ws i) (fun _ _ => True) (fun _ _ _ => (.sl .own 1 (ws.map fun s => [.str s]), [])) (fun acc Y _ => ?_) (fun i a r acc Y ha hi hr _ hY => ?_) () ?_ trivial ?_).trans rfl
  · simp [headToT, c49b0, fillU_all]
    intro a _; rfl
  · have hw : IntKind.i64.wrap ((i : Int) + 1) = (i : Int) + 1 := i64w (by omega) (by omega)
    obtain ⟨_, hg⟩ := List.getElem?_eq_some_iff.1 ha
    simp [headToT, c49b0, hi, hg]
    rw [hY () _ trivial]
    have h2 := fillU_set rowT [.str ⟨#[]⟩] ha
    simp only [rowT] at h2
    simp [headToT, hw, ← h2, rowT]
  · simp [headToT, fillU_zero]
  · unfold big; omega

def szTexts (ws : List T) (l : Int) : Int := if off l ws.length < 0 then -1 else offs (off l ws.length) (ws.map ByteArray.size)

def headSzT (ws : List T) (l : Int) (i : Nat) : St := hd [(0, .sl .bor 1 (ws.map fun s => [.str s])), (1, .int .i64 l), (5, .int .i64 i)] [] 0

theorem law55 (ws : List T) (l : Int) (hl : ws.length ≤ 9223372036854775807) (h0 : 0 ≤ l) (hx : l ≤ 1048576) : F 55 [.sl .bor 1 (ws.map fun s => [.str s]), .int .i64 l] [] = some (.int .i64 (szTexts ws l), []) := by
  refine F_run fn55 rfl ?_
  simp [c55, szTexts]
  by_cases h1 : IntKind.i64.wrap (l - ws.length) < 0
  · simp [h1, off_neg h1]
  · rw [off_pos h1]
    have hn : ws.length ≤ 1048576 := wrap_len h1 hl h0 hx
    simp [h1]
    refine (loop_list ws (fun i (l : Int) => headSzT ws l i) (fun _ _ => True) (fun _ r l => (.int .i64 (offs l (r.map ByteArray.size)), [])) (fun acc Y _ => ?_) (fun i a r acc Y ha hi hr _ hY => ?_) _ ?_ trivial ?_).trans rfl
    · simp [headSzT, c55b0, offs]
    · have hw : IntKind.i64.wrap ((i : Int) + 1) = (i : Int) + 1 := i64w (by omega) (by omega)
      obtain ⟨_, hg⟩ := List.getElem?_eq_some_iff.1 ha
      simp [headSzT, c55b0, hi, hg, offs]
      by_cases h3 : IntKind.i64.wrap (acc - a.size) < 0
      · simp [h3, off_neg h3]
      · rw [off_pos h3]
        simp [h3]
        rw [hY _ _ trivial]
        simp [headSzT, hw]
    · simp [headSzT]
    · unfold big; omega

theorem szTexts_le {ws : List T} {l : Int} (hw : ListWf (fun s : T => s.size ≤ maxLen) ws) (h0 : 0 ≤ l) (hx : l ≤ 1048576) (h : 0 ≤ szTexts ws l) : szTexts ws l ≤ l ∧ ws.length ≤ 1048576 := by
  have go : ∀ (ws : List T) (l : Int), (∀ w ∈ ws, w.size ≤ maxLen) → 0 ≤ l → l ≤ 1048576 → 0 ≤ offs l (ws.map ByteArray.size) → offs l (ws.map ByteArray.size) ≤ l := by
    intro ws
    induction ws with
    | nil => intro l _ _ _ _; exact Int.le_refl _
    | cons w r ih =>
      intro l hw h0 hx h
      simp only [List.map_cons, offs] at h ⊢
      split at h
      · simp at h
      · rename_i h1
        rw [if_neg h1]
        have k1 := off_le h0 (hw w List.mem_cons_self) (by omega) hx
        have := ih _ (fun x hx => hw x (List.mem_cons_of_mem _ hx)) (by omega) (by omega) h
        omega
  unfold szTexts at *
  split at h
  · simp at h
  · rename_i h1
    have k1 := off_le h0 hw.len (by omega) hx
    rw [if_neg h1]
    have := go ws _ hw.all (by omega) (by omega) h
    omega

def headEqT (ws : List T) (i : Nat) : St := hd [(0, .sl .bor 1 (ws.map fun s => [.str s])), (1, .sl .bor 1 (ws.map fun s => [.str s])), (5, .int .i64 i)] [] 0

theorem law53 (ws : List T) (hl : ws.length < big) : F 53 [.sl .bor 1 (ws.map fun s => [.str s]), .sl .bor 1 (ws.map fun s => [.str s])] [] = some (.bool true, []) := by
  refine F_run fn53 rfl ?_
  have hm : ws.length ≤ 9223372036854775807 := by unfold big at hl; omega
  simp [c53]
  refine (loop_list ws (fun i (_ : Unit) => headEqT ws i) (fun _ _ => True) (fun _ r l => (.bool true, [])) (fun acc Y _ => ?_) (fun i a r acc Y ha hi hr _ hY => ?_) () ?_ trivial ?_).trans rfl
  · simp [headEqT, c53b0]
  · have hw : IntKind.i64.wrap ((i : Int) + 1) = (i : Int) + 1 := i64w (by omega) (by omega)
    obtain ⟨_, hg⟩ := List.getElem?_eq_some_iff.1 ha
    simp [headEqT, c53b0, hi, hg]
    rw [hY () _ trivial]
    simp [headEqT, hw]
  · simp [headEqT]
  · exact hl

def zeroMate : List AV := [.str ⟨#[]⟩, .bool false, .int .i64 0, .bool false, .int .i64 0, .sl .own 7 [], .sl .own 11 [], .sl .own 4 [], .sl .own 4 []]
def headToMate (m : Md) (ws : List Mate) (i : Nat) : St := hd [(0, .sl .bor 9 (ws.map (Mate.c m))), (3, .ref 0), (4, .int .i64 i)] [.arr 9 (fillU (Mate.c .own) zeroMate ws i)] 0

def headEqMate (m m' : Md) (ws : List Mate) (i : Nat) : St := hd [(0, .sl .bor 9 (ws.map (Mate.c m))), (1, .sl .bor 9 (ws.map (Mate.c m'))), (5, .int .i64 i)] [] 0

theorem law130 (m m' : Md) (ws : List Mate) (hl : ws.length < big) (he : ∀ p ∈ ws, p.small) : F 130 [.sl .bor 9 (ws.map (Mate.c m)), .sl .bor 9 (ws.map (Mate.c m'))] [] = some (.bool true, []) := by
  refine F_run fn130 rfl ?_
  have hm : ws.length ≤ 9223372036854775807 := by unfold big at hl; omega
  simp [c130]
  refine (loop_list ws (fun i (_ : Unit) => headEqMate m m' ws i) (fun _ _ => True) (fun _ r l => (.bool true, [])) (fun acc Y _ => ?_) (fun i a r acc Y ha hi hr _ hY => ?_) () ?_ trivial ?_).trans rfl
  · simp [headEqMate, c130b0]
  · have hw : IntKind.i64.wrap ((i : Int) + 1) = (i : Int) + 1 := i64w (by omega) (by omega)
    obtain ⟨_, hg⟩ := List.getElem?_eq_some_iff.1 ha
    have h1 := law27 a (he a (List.mem_of_getElem? ha))
    simp only [Mate.c] at h1
    simp [headEqMate, c130b0, hi, hg, h1]
    rw [hY () _ trivial]
    simp [headEqMate, hw]
  · simp [headEqMate]
  · exact hl

noncomputable def szMateX (m : Md) (p : Mate) (l : Int) : Int := match F 30 [.agg (p.c m), .int .i64 l] [] with
  | some (.int .i64 r, []) => r
  | _ => -1
noncomputable def szMateGo : List Mate → Int → Int
  | [], l => l
  | w :: r, l => if szMateX .bor w l < 0 then -1 else szMateGo r (szMateX .bor w l)
noncomputable def szMates (ws : List Mate) (l : Int) : Int := if off l ws.length < 0 then -1 else szMateGo ws (off l ws.length)

def headSzMate (m : Md) (ws : List Mate) (l : Int) (i : Nat) : St := hd [(0, .sl .bor 9 (ws.map (Mate.c m))), (1, .int .i64 l), (5, .int .i64 i)] [] 0

theorem law48 (m m' : Md) (w : Wld) (hw : w.small) : F 48 [.agg (w.c .bor m), .agg (w.c .bor m')] [] = some (.bool true, []) := by
  refine F_run fn48 rfl ?_
  have w1 := law22 m m' w.land hw.land
  simp only [Land.c] at w1
  have h1 := hw.mates
  have h2 := hw.flight
  simp [c48, w1, law130 m m' w.mates (by unfold big; omega) hw.each, law53 w.flight (by unfold big; omega)]
end Go.Proofs.Ytojihfiloldkgaa
