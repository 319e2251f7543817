/- The functions' table in the limit of depth: what a call answers at every great depth. Plain laws speak of this one. -/
import Derived.Test.YtfebkfeobdffjaaAv
namespace Go.Proofs.Ytfebkfeobdffjaa
open Go

/-- 'E' answers 'r' from some depth on. -/
def Ev {α : Type} (E : Nat → Option α) (r : α) : Prop := ∃ d, ∀ e, d ≤ e → E e = some r

theorem Ev.one {α : Type} {E : Nat → Option α} {r s : α} : Ev E r → Ev E s → r = s := fun ⟨d, h⟩ ⟨e, k⟩ => by
  have h1 := h (max d e) (Nat.le_max_left _ _)
  rw [k (max d e) (Nat.le_max_right _ _)] at h1
  exact (Option.some.inj h1).symm

theorem Ev.const {α : Type} {x : Option α} {r : α} (h : x = some r) : Ev (fun _ => x) r := ⟨0, fun _ _ => h⟩

theorem Ev.and {α β : Type} {E : Nat → Option α} {G : Nat → Option β} {r : α} {s : β} : Ev E r → Ev G s → ∃ d, ∀ e, d ≤ e → E e = some r ∧ G e = some s := fun ⟨d, h⟩ ⟨e, k⟩ =>
  ⟨max d e, fun _ hm => ⟨h _ (Nat.le_trans (Nat.le_max_left _ _) hm), k _ (Nat.le_trans (Nat.le_max_right _ _) hm)⟩⟩

open Classical in
noncomputable def CProg.lim (p : CProg) : Callee := fun k args objs =>
  if h : ∃ r, Ev (fun d => p.call d k args objs) r then some h.choose else none

theorem lim_ev {p : CProg} {k : Nat} {args : List AV} {objs : List AO} {r : AV × List (Option AO)} : p.lim k args objs = some r ↔ Ev (fun d => p.call d k args objs) r := by
  unfold CProg.lim
  constructor
  · intro h
    split at h
    · rename_i hx
      rw [← Option.some.inj h]
      exact hx.choose_spec
    · cases h
  · intro h
    rw [dif_pos ⟨r, h⟩]
    have hx : ∃ r, Ev (fun d => p.call d k args objs) r := ⟨r, h⟩
    exact congrArg some (hx.choose_spec.one h)

section
variable {p : CProg}

theorem ev_semCall {k : Nat} {modes : List Bool} {vs : List AV} {key : Nat} {h : Nat → Option AO} {ep : Nat} {o : Out} (hs : semCall p.lim k modes vs key h ep = some o) : Ev (fun d => semCall (p.call d) k modes vs key h ep) o := by
  unfold semCall at hs ⊢
  cases hp : passArgs h ep 0 modes vs with
  | none => rw [hp] at hs; cases hs
  | some g =>
    rw [hp] at hs
    simp only at hs ⊢
    split at hs
    case isFalse => cases hs
    rename_i hc
    simp only [hc, if_true]
    cases hl : p.lim k g.args g.objs with
    | none => rw [hl] at hs; cases hs
    | some q =>
      rw [hl] at hs
      obtain ⟨d, hd⟩ := lim_ev.1 hl
      refine ⟨d, fun e he => ?_⟩
      have := hd e he
      dsimp only at this ⊢
      rw [this]
      exact hs

theorem ev_sem {o : COp} {key : Nat} {g : Nat → AV} {h : Nat → Option AO} {ep : Nat} {out : Out} (hs : sem p.lim o key g h ep = some out) : Ev (fun d => sem (p.call d) o key g h ep) out := by
  cases o
  case call k modes args => exact ev_semCall hs
  case callf f modes args =>
    simp only [sem] at hs ⊢
    generalize f.ev g = v at hs ⊢
    cases v <;> simp only [reduceCtorEq] at hs ⊢
    exact ev_semCall hs
  case len b x => cases b <;> exact ⟨0, fun _ _ => hs⟩
  case callin k x args =>
    simp only [sem] at hs ⊢
    generalize x.ev g = v at hs ⊢
    cases v <;> simp only [reduceCtorEq] at hs ⊢
    rename_i e id i off
    split at hs
    case isFalse => cases hs
    rename_i hc
    simp only [if_pos hc]
    generalize h id = ho at hs ⊢
    match ho with
    | none => cases hs
    | some (.box _) => cases hs
    | some (.map _ _) => cases hs
    | some (.arr sz xs) =>
      simp only at hs ⊢
      generalize hrow : xs[i]? = ro at hs ⊢
      cases ro with
      | none => cases hs
      | some row =>
        dsimp only at hs ⊢
        generalize row[off]? = ce at hs ⊢
        obtain ⟨sz2, zs, rfl⟩ : ∃ sz2 zs, ce = some (.sl .own sz2 zs) := by
          split at hs
          · exact ⟨_, _, rfl⟩
          · cases hs
        dsimp only at hs ⊢
        cases hl : p.lim k (.ref 0 :: evL g args) [.arr sz2 zs] with
        | none => rw [hl] at hs; cases hs
        | some q =>
          rw [hl] at hs
          obtain ⟨d, hd⟩ := lim_ev.1 hl
          refine ⟨d, fun e2 he => ?_⟩
          have := hd e2 he
          dsimp only at this ⊢
          rw [this]
          exact hs
  all_goals exact ⟨0, fun _ _ => by dsimp only; exact hs⟩

theorem ev_stepIns {i : CIns} {key : Nat} {s s' : St} (hs : stepIns p.lim i key s = some s') : Ev (fun d => stepIns (p.call d) i key s) s' := by
  unfold stepIns at hs ⊢
  generalize guardA s.slots i.guard = q at hs ⊢
  match q with
  | none => cases hs
  | some false => exact .const hs
  | some true =>
    simp only at hs ⊢
    cases ho : sem p.lim i.op key s.slots s.heap s.ep with
    | none => rw [ho] at hs; cases hs
    | some o =>
      rw [ho] at hs
      obtain ⟨d, hd⟩ := ev_sem ho
      exact ⟨d, fun e he => by have := hd e he; dsimp only at this ⊢; rw [this]; exact hs⟩

theorem ev_runIns : ∀ {is : List CIns} {key : Nat} {s s' : St}, runIns p.lim is key s = some s' → Ev (fun d => runIns (p.call d) is key s) s'
  | [], _, _, _, h => .const h
  | i :: is, key, s, s', h => by
    simp only [runIns] at h ⊢
    cases h1 : stepIns p.lim i key s with
    | none => rw [h1] at h; cases h
    | some s1 =>
      rw [h1] at h
      obtain ⟨d, hd⟩ := (ev_stepIns h1).and (ev_runIns h)
      exact ⟨d, fun e he => by dsimp only; rw [(hd e he).1]; exact (hd e he).2⟩

theorem ev_stepQuiet {i : CIns} {key : Nat} {s s' : St} (hs : stepQuiet p.lim i key s = some s') : Ev (fun d => stepQuiet (p.call d) i key s) s' := by
  unfold stepQuiet at hs ⊢
  generalize guardA s.slots i.guard = q at hs ⊢
  match q with
  | none => cases hs
  | some false => exact .const hs
  | some true =>
    simp only at hs ⊢
    cases ho : sem p.lim i.op key s.slots s.heap s.ep with
    | none => rw [ho] at hs; cases hs
    | some o =>
      rw [ho] at hs
      obtain ⟨d, hd⟩ := ev_sem ho
      exact ⟨d, fun e he => by have := hd e he; dsimp only at this ⊢; rw [this]; exact hs⟩

theorem ev_runQuiet : ∀ {is : List CIns} {key : Nat} {s s' : St}, runQuiet p.lim is key s = some s' → Ev (fun d => runQuiet (p.call d) is key s) s'
  | [], _, _, _, h => .const h
  | i :: is, key, s, s', h => by
    simp only [runQuiet] at h ⊢
    cases h1 : stepQuiet p.lim i key s with
    | none => rw [h1] at h; cases h
    | some s1 =>
      rw [h1] at h
      obtain ⟨d, hd⟩ := (ev_stepQuiet h1).and (ev_runQuiet h)
      exact ⟨d, fun e he => by dsimp only; rw [(hd e he).1]; exact (hd e he).2⟩

theorem ev_stepLoud {i : CIns} {key : Nat} {s : St} {q' : St × Tr} (hs : stepLoud p.lim i key s = some q') : Ev (fun d => stepLoud (p.call d) i key s) q' := by
  unfold stepLoud at hs ⊢
  generalize guardA s.slots i.guard = q at hs ⊢
  match q with
  | none => cases hs
  | some false => exact .const hs
  | some true =>
    simp only at hs ⊢
    cases ho : sem p.lim i.op key s.slots s.heap s.ep with
    | none => rw [ho] at hs; cases hs
    | some o =>
      rw [ho] at hs
      obtain ⟨d, hd⟩ := ev_sem ho
      exact ⟨d, fun e he => by have := hd e he; dsimp only at this ⊢; rw [this]; exact hs⟩

theorem ev_runLoud : ∀ {is : List CIns} {key : Nat} {s : St} {q : St × List Tr}, runLoud p.lim is key s = some q → Ev (fun d => runLoud (p.call d) is key s) q
  | [], _, _, _, h => .const h
  | i :: is, key, s, q, h => by
    simp only [runLoud] at h ⊢
    cases h1 : stepLoud p.lim i key s with
    | none => rw [h1] at h; cases h
    | some q1 =>
      obtain ⟨s1, t⟩ := q1
      rw [h1] at h
      simp only at h
      cases h2 : runLoud p.lim is (key + 64) s1 with
      | none => rw [h2] at h; cases h
      | some q2 =>
        rw [h2] at h
        obtain ⟨d, hd⟩ := (ev_stepLoud h1).and (ev_runLoud h2)
        exact ⟨d, fun e he => by dsimp only; rw [(hd e he).1]; simp only; rw [(hd e he).2]; exact h⟩

theorem ev_rounds {f : Nat → St → Option (AExit × St)} {f0 : St → Option (AExit × St)} {keep : List Nat} (hf : ∀ s r, f0 s = some r → Ev (fun d => f d s) r) : ∀ {n : Nat} {s : St} {r : AExit × St}, rounds f0 keep n s = some r → Ev (fun d => rounds (f d) keep n s) r
  | 0, _, _, h => by cases h
  | n + 1, s, r, h => by
    simp only [rounds] at h ⊢
    cases h1 : f0 (s.norm keep) with
    | none => rw [h1] at h; cases h
    | some q =>
      obtain ⟨ex, s'⟩ := q
      rw [h1] at h
      cases ex with
      | normal =>
        obtain ⟨d, hd⟩ := (hf _ _ h1).and (ev_rounds hf h)
        exact ⟨d, fun e he => by dsimp only; rw [(hd e he).1]; exact (hd e he).2⟩
      | exit i => obtain ⟨d, hd⟩ := hf _ _ h1; exact ⟨d, fun e he => by have := hd e he; dsimp only at this ⊢; rw [this]; exact h⟩
      | ret => obtain ⟨d, hd⟩ := hf _ _ h1; exact ⟨d, fun e he => by have := hd e he; dsimp only at this ⊢; rw [this]; exact h⟩

theorem ev_runCode : ∀ {c : CCode} {s : St} {r : AExit × St}, runCode p.lim c s = some r → Ev (fun d => runCode (p.call d) c s) r
  | .skip, _, _, h => .const h
  | .exit _, _, _, h => .const h
  | .ret, _, _, h => .const h
  | .region ops keep, s, r, h => by
    simp only [runCode] at h ⊢
    cases h1 : runIns p.lim ops s.next s with
    | none => rw [h1] at h; cases h
    | some s1 => rw [h1] at h; obtain ⟨d, hd⟩ := ev_runIns h1; exact ⟨d, fun e he => by have := hd e he; dsimp only at this ⊢; rw [this]; exact h⟩
  | .quiet ops keep, s, r, h => by
    simp only [runCode] at h ⊢
    cases h1 : runQuiet p.lim ops s.next s with
    | none => rw [h1] at h; cases h
    | some s1 => rw [h1] at h; obtain ⟨d, hd⟩ := ev_runQuiet h1; exact ⟨d, fun e he => by have := hd e he; dsimp only at this ⊢; rw [this]; exact h⟩
  | .loud ops deps keep, s, r, h => by
    simp only [runCode] at h ⊢
    cases h1 : runLoud p.lim ops s.next s with
    | none => rw [h1] at h; cases h
    | some s1 => rw [h1] at h; obtain ⟨d, hd⟩ := ev_runLoud h1; exact ⟨d, fun e he => by have := hd e he; dsimp only at this ⊢; rw [this]; exact h⟩
  | .seq a b, s, r, h => by
    simp only [runCode] at h ⊢
    cases h1 : runCode p.lim a s with
    | none => rw [h1] at h; cases h
    | some q =>
      obtain ⟨ex, s'⟩ := q
      rw [h1] at h
      cases ex with
      | normal =>
        obtain ⟨d, hd⟩ := (ev_runCode h1).and (ev_runCode h)
        exact ⟨d, fun e he => by dsimp only; rw [(hd e he).1]; exact (hd e he).2⟩
      | exit i => obtain ⟨d, hd⟩ := ev_runCode h1; exact ⟨d, fun e he => by have := hd e he; dsimp only at this ⊢; rw [this]; exact h⟩
      | ret => obtain ⟨d, hd⟩ := ev_runCode h1; exact ⟨d, fun e he => by have := hd e he; dsimp only at this ⊢; rw [this]; exact h⟩
  | .cond c a b, s, r, h => by
    simp only [runCode] at h ⊢
    generalize c.ev s.slots = v at h ⊢
    match v with
    | .bool true => exact ev_runCode h
    | .bool false => exact ev_runCode h
    | .any | .int _ _ | .str _ | .sl _ _ _ | .ref _ | .view _ _ _ | .ptr _ _ _ | .bptr _ _ _ | .agg _ | .tup _ | .cellp _ | .mapr _ | .fn _ => cases h
  | .block id b, s, r, h => by
    simp only [runCode] at h ⊢
    cases h1 : runCode p.lim b s with
    | none => rw [h1] at h; cases h
    | some q =>
      obtain ⟨ex, s'⟩ := q
      rw [h1] at h
      obtain ⟨d, hd⟩ := ev_runCode h1
      exact ⟨d, fun e he => by have := hd e he; dsimp only at this ⊢; rw [this]; exact h⟩
  | .loop keep b, s, r, h => by
    simp only [runCode] at h ⊢
    exact ev_rounds (fun s r hr => ev_runCode hr) h

theorem ev_runFn {c : CFn} {args : List AV} {objs : List AO} {r : AV × List (Option AO)} (h : runFn p.lim c args objs = some r) : Ev (fun d => runFn (p.call d) c args objs) r := by
  unfold runFn at h ⊢
  split at h
  case isFalse => cases h
  rename_i hl
  simp only [hl, if_true]
  cases h1 : runCode p.lim c.body ⟨startSlots args 0, startHeap objs 0, 0, objs.length, objs.length⟩ with
  | none => rw [h1] at h; cases h
  | some q =>
    rw [h1] at h
    obtain ⟨d, hd⟩ := ev_runCode h1
    exact ⟨d, fun e he => by have := hd e he; dsimp only at this ⊢; rw [this]; exact h⟩

/-- A law of a function: what its code does where its callees do as their laws say. -/
theorem lim_fn {k : Nat} {c : CFn} {args : List AV} {objs : List AO} {r : AV × List (Option AO)} (hc : p.fn k = some c) (h : runFn p.lim c args objs = some r) : p.lim k args objs = some r := by
  obtain ⟨d, hd⟩ := ev_runFn h
  refine lim_ev.2 ⟨d + 1, fun e he => ?_⟩
  obtain ⟨e', rfl⟩ : ∃ e', e = e' + 1 := ⟨e - 1, by omega⟩
  simp only [CProg.call, hc]
  exact hd e' (by omega)

theorem lim_prim {k : Nat} {args : List AV} {objs : List AO} {r : AV × List (Option AO)} (hc : p.fn k = none) (h : p.prim k args objs = some r) : p.lim k args objs = some r :=
  lim_ev.2 ⟨1, fun e he => by
    obtain ⟨e', rfl⟩ : ∃ e', e = e' + 1 := ⟨e - 1, by omega⟩
    simp only [CProg.call, hc]
    exact h⟩
end

/-- Where the rounds of a loop lead, by a measure. -/
theorem rounds_by {σ : Type} {f : St → Option (AExit × St)} {keep : List Nat} (H : σ → St) (Inv : σ → Prop) (μ : σ → Nat) (R : σ → Option (AExit × St))
    (step : ∀ x, Inv x → (∃ s' y, f (H x) = some (.normal, s') ∧ s'.norm keep = H y ∧ Inv y ∧ μ y < μ x ∧ R y = R x) ∨ (f (H x) = R x ∧ ∀ s', R x ≠ some (.normal, s'))) :
    ∀ (n : Nat) (x : σ) (s : St), s.norm keep = H x → Inv x → μ x < n → rounds f keep n s = R x
  | 0, _, _, _, _, h => absurd h (Nat.not_lt_zero _)
  | n + 1, x, s, hs, hi, hm => by
    simp only [rounds, hs]
    rcases step x hi with ⟨s', y, h1, h2, h3, h4, h5⟩ | ⟨h1, h2⟩
    · rw [h1]
      simp only
      rw [rounds_by H Inv μ R step n y s' h2 h3 (by omega), h5]
    · rw [h1]
      split
      · rename_i s' he
        exact absurd he (h2 s')
      · rfl
end Go.Proofs.Ytfebkfeobdffjaa
