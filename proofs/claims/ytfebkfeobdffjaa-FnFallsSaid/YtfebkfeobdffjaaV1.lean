/- What is valid, said of lists as wholes. -/
import Derived.Test.YtfebkfeobdffjaaA5
namespace Go.Proofs.Ytfebkfeobdffjaa
open Go
set_option linter.unusedSimpArgs false

/-- Ascending by a text. -/
def Asc {α : Type} (key : α → T) (xs : List α) : Prop := xs.Pairwise fun a b => sLt (key a) (key b) = true

def ascL {α : Type} (key : α → T) (pre : List α) (x : α) : Bool := match pre.getLast? with
  | none => true
  | some p => sLt (key p) (key x)

theorem asc_snoc {α : Type} (key : α → T) (pre : List α) (x : α) (h : Asc key pre) : ascL key pre x = true ↔ Asc key (pre ++ [x]) := by
  unfold Asc at *
  unfold ascL
  rw [List.pairwise_append]
  rcases List.eq_nil_or_concat pre with rfl | ⟨l, p, rfl⟩
  · simp
  · simp only [List.concat_eq_append, List.getLast?_append, List.getLast?_singleton, Option.some_or] at h ⊢
    constructor
    · intro hp
      refine ⟨h, List.pairwise_singleton _ _, fun a ha b hb => ?_⟩
      rw [List.mem_singleton.1 hb]
      rcases List.mem_append.1 ha with ha | ha
      · exact sLt_trans ((List.pairwise_append.1 h).2.2 a ha p (List.mem_singleton.2 rfl)) hp
      · rw [List.mem_singleton.1 ha]; exact hp
    · exact fun ⟨_, _, k⟩ => k p (List.mem_append_right _ (List.mem_singleton.2 rfl)) x (List.mem_singleton.2 rfl)

theorem ascR_eq (pre : List Run) (r : Run) : ascR pre r = ascL (fun x : Run => x.want.copy) pre r := by unfold ascR ascL; cases pre.getLast? <;> rfl
theorem ascA_eq (pre : List Ask) (r : Ask) : ascA pre r = ascL (fun x : Ask => x.hold) pre r := by unfold ascA ascL; cases pre.getLast? <;> rfl
theorem ascW_eq (pre : List Want) (r : Want) : ascW pre r = ascL (fun x : Want => x.copy) pre r := by unfold ascW ascL; cases pre.getLast? <;> rfl
theorem Asc.left {α : Type} {key : α → T} {a b : List α} (h : Asc key (a ++ b)) : Asc key a := (List.pairwise_append.1 h).1
theorem Asc.right {α : Type} {key : α → T} {a b : List α} (h : Asc key (a ++ b)) : Asc key b := (List.pairwise_append.1 h).2.1
theorem Asc.nil {α : Type} (key : α → T) : Asc key [] := List.Pairwise.nil

theorem runsGo_iff (c : Int) : ∀ (rs pre : List Run), Asc (·.want.copy) pre → (runsGo c pre rs = true ↔ (∀ r ∈ rs, runOk r c = true) ∧ Asc (·.want.copy) (pre ++ rs))
  | [], pre, h => by simp [runsGo, h]
  | r :: rs, pre, h => by
    have e := asc_snoc (fun x : Run => x.want.copy) pre r h
    rw [← ascR_eq] at e
    simp only [runsGo, Bool.and_eq_true]
    constructor
    · rintro ⟨h1, h2, h3⟩
      have h4 := e.1 h2
      obtain ⟨h5, h6⟩ := (runsGo_iff c rs (pre ++ [r]) h4).1 h3
      exact ⟨fun x hx => (List.mem_cons.1 hx).elim (fun q => q ▸ h1) (h5 x), by simpa using h6⟩
    · rintro ⟨h1, h2⟩
      have h3 : Asc (fun x : Run => x.want.copy) ((pre ++ [r]) ++ rs) := by simpa using h2
      exact ⟨h1 r List.mem_cons_self, e.2 h3.left, (runsGo_iff c rs (pre ++ [r]) h3.left).2 ⟨fun x hx => h1 x (List.mem_cons_of_mem _ hx), h3⟩⟩

theorem runsOk_iff (rs : List Run) (c : Int) : runsOk rs c = true ↔ rs.length ≤ 20 ∧ (∀ r ∈ rs, runOk r c = true) ∧ Asc (·.want.copy) rs := by
  simp only [runsOk, Bool.and_eq_true, decide_eq_true_eq]
  rw [runsGo_iff c rs [] (Asc.nil _)]
  rfl

theorem asksGo_iff (c : Int) : ∀ (l pre : List Ask), Asc (·.hold) pre → (asksGo c pre l = true ↔ (∀ r ∈ l, askOk c r = true) ∧ Asc (·.hold) (pre ++ l))
  | [], pre, h => by simp [asksGo, h]
  | r :: rs, pre, h => by
    have e := asc_snoc (fun x : Ask => x.hold) pre r h
    rw [← ascA_eq] at e
    simp only [asksGo, Bool.and_eq_true]
    constructor
    · rintro ⟨h1, h2, h3⟩
      have h4 := e.1 h2
      obtain ⟨h5, h6⟩ := (asksGo_iff c rs (pre ++ [r]) h4).1 h3
      exact ⟨fun x hx => (List.mem_cons.1 hx).elim (fun q => q ▸ h1) (h5 x), by simpa using h6⟩
    · rintro ⟨h1, h2⟩
      have h3 : Asc (fun x : Ask => x.hold) ((pre ++ [r]) ++ rs) := by simpa using h2
      exact ⟨h1 r List.mem_cons_self, e.2 h3.left, (asksGo_iff c rs (pre ++ [r]) h3.left).2 ⟨fun x hx => h1 x (List.mem_cons_of_mem _ hx), h3⟩⟩

theorem asksOk_iff (l : List Ask) (c : Int) : asksOk l c = true ↔ l.length ≤ 40 ∧ (∀ r ∈ l, askOk c r = true) ∧ Asc (·.hold) l := by
  simp only [asksOk, Bool.and_eq_true, decide_eq_true_eq]
  rw [asksGo_iff c l [] (Asc.nil _)]
  rfl

/-- No two have one hold. -/
def Apart (ws : List Want) : Prop := ws.Pairwise fun a b => sEq b.hold ⟨#[]⟩ = true ∨ sEq a.hold b.hold = false

theorem fresh_snoc (pre : List Want) (w : Want) (h : Apart pre) : freshW pre w = true ↔ Apart (pre ++ [w]) := by
  unfold Apart at *
  rw [List.pairwise_append]
  simp only [freshW, heldB, Bool.or_eq_true, Bool.not_eq_true', List.any_eq_false, Bool.not_eq_true]
  constructor
  · rintro (h1 | h1)
    · exact ⟨h, List.pairwise_singleton _ _, fun a _ b hb => by rw [List.mem_singleton.1 hb]; exact .inl h1⟩
    · exact ⟨h, List.pairwise_singleton _ _, fun a ha b hb => by rw [List.mem_singleton.1 hb]; exact .inr (h1 a ha)⟩
  · rintro ⟨_, _, k⟩
    by_cases e : sEq w.hold ⟨#[]⟩ = true
    · exact .inl e
    · exact .inr fun a ha => (k a ha w (List.mem_singleton.2 rfl)).resolve_left e

theorem wantsGo_iff : ∀ (l pre : List Want), Asc (·.copy) pre → Apart pre → (wantsGo pre l = true ↔ (∀ r ∈ l, wantOk r = true) ∧ Asc (·.copy) (pre ++ l) ∧ Apart (pre ++ l))
  | [], pre, h, k => by simp [wantsGo, h, k]
  | r :: rs, pre, h, k => by
    have e := asc_snoc (fun x : Want => x.copy) pre r h
    rw [← ascW_eq] at e
    have e2 := fresh_snoc pre r k
    simp only [wantsGo, Bool.and_eq_true]
    constructor
    · rintro ⟨h1, h2, h3, h7⟩
      have h4 := e.1 h2
      obtain ⟨h5, h6, h8⟩ := (wantsGo_iff rs (pre ++ [r]) h4 (e2.1 h3)).1 h7
      exact ⟨fun x hx => (List.mem_cons.1 hx).elim (fun q => q ▸ h1) (h5 x), by simpa using h6, by simpa using h8⟩
    · rintro ⟨h1, h2, h4⟩
      have h3 : Asc (fun x : Want => x.copy) ((pre ++ [r]) ++ rs) := by simpa using h2
      have h5 : Apart ((pre ++ [r]) ++ rs) := by simpa using h4
      have h6 : Apart (pre ++ [r]) := (List.pairwise_append.1 h5).1
      exact ⟨h1 r List.mem_cons_self, e.2 h3.left, e2.2 h6, (wantsGo_iff rs (pre ++ [r]) h3.left h6).2 ⟨fun x hx => h1 x (List.mem_cons_of_mem _ hx), h3, h5⟩⟩

theorem wantsOk_iff (ws : List Want) : wantsOk ws = true ↔ ws.length ≤ 10 ∧ (∀ w ∈ ws, wantOk w = true) ∧ Asc (·.copy) ws ∧ Apart ws := by
  simp only [wantsOk, Bool.and_eq_true, decide_eq_true_eq]
  rw [wantsGo_iff ws [] (Asc.nil _) List.Pairwise.nil]
  rfl

theorem isName_nil : isName ⟨#[]⟩ = false := by decide

theorem mateParts_iff (m : Mate) : mateParts m = true ↔ isName m.name = true ∧ inR m.clock 0 1000000 = true ∧ inR m.seen 0 1000000 = true ∧ wantsOk m.wants = true ∧ (m.known = true ∨ m.wants = []) ∧ runsOk m.runs m.clock = true ∧ asksOk m.asks m.clock = true ∧ asksOk m.gives m.clock = true := by
  simp only [mateParts, Bool.and_eq_true, Bool.or_eq_true, List.isEmpty_iff]

theorem mateValid_iff (m : Mate) : mateValid m = true ↔ mateParts m = true ∧ apartGo m.gives m.asks = true ∧ (m.up = true ∨ mateDown m = true) := by
  simp only [mateValid, Bool.and_eq_true, Bool.or_eq_true]

theorem asksOk_nil (c : Int) : asksOk [] c = true := by simp [asksOk, asksGo]
theorem wantsOk_nil : wantsOk [] = true := by simp [wantsOk, wantsGo]

theorem fallRun_ok {b : Bool} {r r' : Run} {c : Int} (h : runOk r c = true) (e : fallRun b r = some r') : runOk r' c = true ∧ r'.want = r.want ∧ (alive r' || !sEq r'.want.hold ⟨#[]⟩) = true ∧ alive r' = !b ∧ (b = false → r' = r ∧ alive r = true) := by
  unfold fallRun at e
  split at e
  case isFalse => cases e
  rename_i ha
  cases b
  · simp only [Bool.false_eq_true, if_false, Option.some.injEq] at e
    subst e
    exact ⟨h, rfl, by simp [ha], by simp [ha], fun _ => ⟨rfl, ha⟩⟩
  · simp only [if_true] at e
    split at e
    · cases e
    · rename_i hh
      simp only [Option.some.injEq] at e
      subst e
      have hh' : sEq r.want.hold ⟨#[]⟩ = false := by simpa using hh
      refine ⟨?_, rfl, by simp [hh'], by simp [alive, aliveS], fun h => by cases h⟩
      simp only [runOk, Bool.and_eq_true] at h ⊢
      obtain ⟨h1, h2, h3, h4, h5, h6, h7, h8⟩ := h
      exact ⟨h1, by simp [inR], by simp [inR], by simp, h5, h6, h7, by simp [alive, aliveS]⟩

theorem fall_valid {m : Mate} (b : Bool) (h : mateValid m = true) : mateValid (mateFall m b) = true := by
  obtain ⟨h1, h2, h3⟩ := (mateValid_iff m).1 h
  obtain ⟨p1, p2, p3, p4, p5, p6, p7, p8⟩ := (mateParts_iff m).1 h1
  obtain ⟨r1, r2, r3⟩ := (runsOk_iff _ _).1 p6
  unfold mateFall
  rw [if_pos h]
  refine (mateValid_iff _).2 ⟨(mateParts_iff _).2 ⟨p1, p2, by simp [Mate.zero, inR], wantsOk_nil, .inr rfl, (runsOk_iff _ _).2 ⟨?_, ?_, ?_⟩, asksOk_nil _, asksOk_nil _⟩, by simp [apartGo, Mate.zero], .inr ?_⟩
  · exact Nat.le_trans (List.length_filterMap_le _ _) r1
  · intro r hr
    obtain ⟨r0, k1, k2⟩ := List.mem_filterMap.1 hr
    exact (fallRun_ok (r2 r0 k1) k2).1
  · refine List.Pairwise.filterMap _ (fun a b' hab x hx y hy => ?_) r3
    · have hx' := hx
      have hy' := hy
      have e : ∀ {r r' : Run}, fallRun b r = some r' → r'.want = r.want := fun {r r'} e => by
        unfold fallRun at e
        split at e
        · split at e
          · split at e
            · cases e
            · rw [← Option.some.inj e]
          · rw [← Option.some.inj e]
        · cases e
      simp only at hab ⊢
      rw [e hx, e hy]; exact hab
  · simp only [mateDown, Mate.zero, Bool.not_false, List.isEmpty_nil, beq_self_eq_true, Bool.true_and, downRuns, List.all_eq_true]
    intro r hr
    obtain ⟨r0, k1, k2⟩ := List.mem_filterMap.1 hr
    exact (fallRun_ok (r2 r0 k1) k2).2.2.1

theorem rise_valid {m : Mate} (h : mateValid m = true) : mateValid (mateRise m) = true := by
  obtain ⟨h1, h2, h3⟩ := (mateValid_iff m).1 h
  unfold mateRise
  rw [if_pos h]
  refine (mateValid_iff _).2 ⟨h1, h2, ?_⟩
  simp only [Bool.or_eq_true]
  rcases h3 with h3 | h3
  · exact .inl (.inl h3)
  · exact .inr h3

theorem zero_invalid : mateValid .zero = false := by
  cases h : mateValid .zero with
  | false => rfl
  | true =>
    have := ((mateParts_iff _).1 ((mateValid_iff _).1 h).1).1
    simp [Mate.zero, isName_nil] at this
end Go.Proofs.Ytfebkfeobdffjaa
