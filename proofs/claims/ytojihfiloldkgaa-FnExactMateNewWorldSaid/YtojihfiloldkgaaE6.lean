/- The laws' own helpers: sizes only go down. -/
import Derived.Test.YtojihfiloldkgaaE5
import Derived.Test.YtojihfiloldkgaaReadT
namespace Go.Proofs.Ytojihfiloldkgaa
open Go
set_option linter.unusedSimpArgs false
set_option maxRecDepth 100000

theorem off_le {l : Int} {n : Nat} (h0 : 0 ≤ l) (hn : n ≤ maxLen) (h : 0 ≤ off l n) (hx : l ≤ 1048576) : off l n ≤ l ∧ n ≤ 1048576 := by
  have hm : maxLen = 9223372036854775807 := rfl
  by_cases h2 : IntKind.i64.wrap (l - n) < 0
  · rw [off_neg h2] at h; simp at h
  · rw [off_pos h2] at *
    rw [i64w (by omega) (by omega)] at *
    omega

theorem szWant_le {w : Want} {l : Int} (hw : w.wf) (h0 : 0 ≤ l) (hx : l ≤ 1048576) (h : 0 ≤ szWant w l) : szWant w l ≤ l := by
  unfold szWant offs offs offs at *
  split at h
  · simp at h
  · rename_i h1
    have k1 := off_le h0 hw.copy (by omega) hx
    rw [if_neg h1]
    split at h
    · simp at h
    · rename_i h2
      have k2 := off_le (l := off l w.copy.size) (by omega) hw.hold (by omega) (by omega)
      rw [if_neg h2]
      omega

theorem szRun_le {w : Run} {l : Int} (hw : w.wf) (h0 : 0 ≤ l) (hx : l ≤ 1048576) (h : 0 ≤ szRun w l) : szRun w l ≤ l := by
  unfold szRun at *
  split at h
  · simp at h
  · rename_i h1
    rw [if_neg h1]
    exact szWant_le hw.want h0 hx h

theorem szAsk_le {w : Ask} {l : Int} (hw : w.wf) (h0 : 0 ≤ l) (hx : l ≤ 1048576) (h : 0 ≤ szAsk w l) : szAsk w l ≤ l := by
  unfold szAsk offs offs offs at *
  split at h
  · simp at h
  · rename_i h1
    have k1 := off_le h0 hw.hold (by omega) hx
    rw [if_neg h1]
    split at h
    · simp at h
    · rename_i h2
      have k2 := off_le (l := off l w.hold.size) (by omega) hw.copy (by omega) (by omega)
      rw [if_neg h2]
      omega

theorem szWants_le {ws : List Want} {l : Int} (hw : ListWf Want.wf ws) (h0 : 0 ≤ l) (hx : l ≤ 1048576) (h : 0 ≤ szWants ws l) : szWants ws l ≤ l ∧ ws.length ≤ 1048576 := by
  have go : ∀ (ws : List Want) (l : Int), (∀ w ∈ ws, w.wf) → 0 ≤ l → l ≤ 1048576 → 0 ≤ szWantGo ws l → szWantGo ws l ≤ l := by
    intro ws
    induction ws with
    | nil => intro l _ _ _ _; exact Int.le_refl _
    | cons w r ih =>
      intro l hw h0 hx h
      simp only [szWantGo] at h ⊢
      split at h
      · simp at h
      · rename_i h1
        rw [if_neg h1]
        have k1 := szWant_le (hw w List.mem_cons_self) h0 hx (by omega)
        have := ih _ (fun x hx => hw x (List.mem_cons_of_mem _ hx)) (by omega) (by omega) h
        omega
  unfold szWants at *
  split at h
  · simp at h
  · rename_i h1
    have k1 := off_le h0 hw.len (by omega) hx
    rw [if_neg h1]
    have := go ws _ hw.all (by omega) (by omega) h
    omega

theorem szRuns_le {ws : List Run} {l : Int} (hw : ListWf Run.wf ws) (h0 : 0 ≤ l) (hx : l ≤ 1048576) (h : 0 ≤ szRuns ws l) : szRuns ws l ≤ l ∧ ws.length ≤ 1048576 := by
  have go : ∀ (ws : List Run) (l : Int), (∀ w ∈ ws, w.wf) → 0 ≤ l → l ≤ 1048576 → 0 ≤ szRunGo ws l → szRunGo ws l ≤ l := by
    intro ws
    induction ws with
    | nil => intro l _ _ _ _; exact Int.le_refl _
    | cons w r ih =>
      intro l hw h0 hx h
      simp only [szRunGo] at h ⊢
      split at h
      · simp at h
      · rename_i h1
        rw [if_neg h1]
        have k1 := szRun_le (hw w List.mem_cons_self) h0 hx (by omega)
        have := ih _ (fun x hx => hw x (List.mem_cons_of_mem _ hx)) (by omega) (by omega) h
        omega
  unfold szRuns at *
  split at h
  · simp at h
  · rename_i h1
    have k1 := off_le h0 hw.len (by omega) hx
    rw [if_neg h1]
    have := go ws _ hw.all (by omega) (by omega) h
    omega

theorem szAsks_le {ws : List Ask} {l : Int} (hw : ListWf Ask.wf ws) (h0 : 0 ≤ l) (hx : l ≤ 1048576) (h : 0 ≤ szAsks ws l) : szAsks ws l ≤ l ∧ ws.length ≤ 1048576 := by
  have go : ∀ (ws : List Ask) (l : Int), (∀ w ∈ ws, w.wf) → 0 ≤ l → l ≤ 1048576 → 0 ≤ szAskGo ws l → szAskGo ws l ≤ l := by
    intro ws
    induction ws with
    | nil => intro l _ _ _ _; exact Int.le_refl _
    | cons w r ih =>
      intro l hw h0 hx h
      simp only [szAskGo] at h ⊢
      split at h
      · simp at h
      · rename_i h1
        rw [if_neg h1]
        have k1 := szAsk_le (hw w List.mem_cons_self) h0 hx (by omega)
        have := ih _ (fun x hx => hw x (List.mem_cons_of_mem _ hx)) (by omega) (by omega) h
        omega
  unfold szAsks at *
  split at h
  · simp at h
  · rename_i h1
    have k1 := off_le h0 hw.len (by omega) hx
    rw [if_neg h1]
    have := go ws _ hw.all (by omega) (by omega) h
    omega

/-- One part after another. -/
def szThen (a : Int) (f : Int → Int) : Int := if a < 0 then -1 else f a
def szMate (m : Mate) (l : Int) : Int := szThen (off l m.name.size) fun l => szThen (szWants m.wants l) fun l => szThen (szRuns m.runs l) fun l => szThen (szAsks m.asks l) fun l => szAsks m.gives l

theorem szThen_neg {a : Int} {f : Int → Int} (h : a < 0) : szThen a f = -1 := if_pos h
theorem szThen_pos {a : Int} {f : Int → Int} (h : 0 ≤ a) : szThen a f = f a := if_neg (by omega)

end Go.Proofs.Ytojihfiloldkgaa
