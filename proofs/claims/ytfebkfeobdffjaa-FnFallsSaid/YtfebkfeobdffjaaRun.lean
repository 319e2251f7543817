/- Code: what the abstract machine says of it holds. -/
import Derived.Test.YtfebkfeobdffjaaNorm
import Derived.LoopN
namespace Go.Proofs.Ytfebkfeobdffjaa
open Go Go.RowKit
set_option linter.unusedSimpArgs false

def chkCode (P : Program) (num : Nat → Option FuncId) (nt : Nat) : CCode → Code → Bool
  | .skip, .skip => true
  | .region cops _, .region _ ops false => chkOps P num nt ops ops.toList cops
  | .quiet cops _, .region _ ops true => chkOps P num nt ops ops.toList cops && (chkDeps (depsFrom [] ops.toList) 0 ops.toList (depsFrom [] ops.toList) && slotsClear 0 cops (depsFrom [] ops.toList))
  | .loud cops deps _, .region _ ops true => chkOps P num nt ops ops.toList cops && (chkDeps deps 0 ops.toList deps && slotsClear 0 cops deps)
  | .seq a b, .seq x y => chkCode P num nt a x && chkCode P num nt b y
  | .cond y a b, .cond x c d => opdB num x y && (chkCode P num nt a c && chkCode P num nt b d)
  | .block id b, .block id' c => id == id' && chkCode P num nt b c
  | .loop _ b, .loop c => chkCode P num nt b c
  | .exit id, .exit id' => id == id'
  | .ret, .ret => true
  | _, _ => false

def AExit.ex : AExit → Exit
  | .normal => .normal
  | .exit id => .exit id
  | .ret => .ret

/-- The state is as the abstract machine says, and its numbers are below 'next'. -/
def Good (cx : Cx) (nt : Nat) (s : St) (a : Act) (w : World) : Prop := ∃ g, Corr cx nt s g a w ∧ (∀ id, g.used id → id < s.next) ∧ s.base = cx.base

section
variable {cx : Cx} {nt : Nat} {cl : Callee}

theorem runIns_base : ∀ {is : List CIns} {key : Nat} {s s' : St}, runIns cl is key s = some s' → s'.base = s.base
  | [], key, s, s', h => by simp only [runIns, Option.some.injEq] at h; rw [h]
  | i :: is, key, s, s', h => by
    simp only [runIns] at h
    cases h1 : stepIns cl i key s with
    | none => rw [h1] at h; cases h
    | some s1 =>
      rw [h1] at h
      rw [runIns_base h]
      obtain ⟨t, ht⟩ := stepIns_loud h1
      obtain ⟨v, ws, b, rfl, _⟩ := step_local ht
      rfl

theorem runLoud_base : ∀ {is : List CIns} {key : Nat} {s s' : St} {ts : List Tr}, runLoud cl is key s = some (s', ts) → s'.base = s.base
  | [], key, s, s', ts, h => by simp only [runLoud, Option.some.injEq, Prod.mk.injEq] at h; rw [h.1]
  | i :: is, key, s, s', ts, h => by
    simp only [runLoud] at h
    cases h1 : stepLoud cl i key s with
    | none => rw [h1] at h; cases h
    | some p =>
      obtain ⟨s1, t⟩ := p
      rw [h1] at h
      simp only at h
      cases h2 : runLoud cl is (key + 64) s1 with
      | none => rw [h2] at h; cases h
      | some q =>
        obtain ⟨s2, ts'⟩ := q
        rw [h2] at h
        simp only [Option.some.injEq, Prod.mk.injEq] at h
        rw [← h.1, runLoud_base h2]
        obtain ⟨v, ws, b, rfl, _⟩ := step_local h1
        rfl

theorem chkDeps_len {deps : List Nat} : ∀ {n : Nat} {os : List Oper} {ds : List Nat}, chkDeps deps n os ds = true → ds.length = os.length
  | n, [], [], _ => rfl
  | n, o :: os, d :: ds, h => by
    simp only [chkDeps, Bool.and_eq_true] at h
    simp [chkDeps_len h.2.2]
  | _, [], _ :: _, h => by cases h
  | _, _ :: _, [], h => by cases h

/-- A region in any order. -/
theorem draw_goes (hm : cx.P.follows .mixedOrders = true) (hK : Known cx cl) {id : Nat} {ops : Array Oper} {cops : List CIns} {deps : List Nat} {s s' : St} {ts : List Tr} {a : Act} {w : World} {Q : Exit → Act → World → Prop} (hc : chkOps cx.P cx.num nt ops ops.toList cops = true)
    (hd : chkDeps deps 0 ops.toList deps = true) (hfree : Free deps (items 0 cops ts)) (hrun : runLoud cl cops s.next s = some (s', ts)) (hg : Good cx nt s a w) (keep : List Nat)
    (hq : ∀ a' w', Good cx nt (s'.forget keep (s.next + 64 * cops.length)) a' w' → Q .normal a' w') : (Code.region id ops true).wp cx.P Q a w := by
  obtain ⟨g, c, hu, hb⟩ := hg
  obtain ⟨hl, hops⟩ := chkOps_get hc
  rw [Array.length_toList] at hl
  obtain ⟨htl, hR⟩ := runLoud_items (k0 := s.next) (n := 0) (by rw [Nat.mul_zero, Nat.add_zero]; exact hrun)
  have hdl := chkDeps_len hd
  rw [Array.length_toList] at hdl
  refine wp_region_any hm (any_goes hK (deps := deps) (cops := cops) (k0 := s.next) (sF := s') hdl (fun n i hi => ?_) hl.symm (fun j o d ho hdj => ?_) (fun g' a' w' c' hu' => hq a' w' ⟨g', forget_corr c' keep _, fun id hid => ?_, ?_⟩)
    ops.size (items 0 cops ts) (Array.replicate ops.size false) s g a _ ?_ items_sorted hfree (fun p hp => ?_) hR (drawn_corr c) (by simp) (fun n hn => ?_) (fun j d k hj => ?_) (fun id hid => .inl (hu id hid)))
  · obtain ⟨o, h1, h2⟩ := hops n i hi
    exact ⟨o, by simpa using h1, h2⟩
  · have := chkDeps_get hd j o d (by simpa using ho) hdj
    rwa [Nat.zero_add] at this
  · show id < s.next + 64 * cops.length
    rw [← hl]; exact hu' id hid
  · show s'.base = cx.base
    rw [runLoud_base hrun]; exact hb
  · have h1 := congrArg List.length (items_nums (n := 0) htl)
    simp only [List.length_map, List.length_range'] at h1
    omega
  · obtain ⟨j, h1, h2, _⟩ := items_get hp
    rw [h1, Nat.zero_add]; exact h2
  · have h1 : (Array.replicate ops.size false).getD n true = false := by simp [hn]
    refine ⟨fun _ => ?_, fun _ => h1⟩
    have h2 := items_nums (n := 0) htl
    have h3 : n ∈ (items 0 cops ts).map (·.1) := by rw [h2, List.mem_range'_1]; omega
    obtain ⟨p, hp, hpn⟩ := List.mem_map.1 h3
    exact ⟨p, hp, hpn⟩
  · have h1 : (Array.replicate ops.size false).getD j false = false := by
      by_cases h : j < ops.size <;> simp [h]
    rw [h1] at hj
    cases hj

theorem rounds_goes {c : Code} {Q : Exit → Act → World → Prop} {f : St → Option (AExit × St)} {keep : List Nat} {ex : AExit} {s' : St}
    (hbody : ∀ s ex' s1 a w (Q' : Exit → Act → World → Prop), f s = some (ex', s1) → Good cx nt s a w → (∀ a' w', Good cx nt s1 a' w' → Q' ex'.ex a' w') → c.wp cx.P Q' a w)
    (hq : ∀ a' w', Good cx nt s' a' w' → Q ex.ex a' w') : ∀ (n : Nat) (s : St) (a : Act) (w : World), rounds f keep n s = some (ex, s') → Good cx nt s a w → Code.rounds cx.P c Q n a w
  | 0, s, a, w, h, _ => by simp [rounds] at h
  | n + 1, s, a, w, h, hg => by
    obtain ⟨g, hc, _, hb⟩ := hg
    obtain ⟨g', hc', hu', hb'⟩ := norm_corr hc hb keep
    have hgn : Good cx nt (s.norm keep) a w := ⟨g', hc', hu', hb'⟩
    simp only [rounds] at h
    rw [rounds_succ]
    cases hf : f (s.norm keep) with
    | none => rw [hf] at h; cases h
    | some p =>
      obtain ⟨ex', s1⟩ := p
      rw [hf] at h
      refine hbody (s.norm keep) ex' s1 a w _ hf hgn (fun a' w' hg1 => ?_)
      cases ex' with
      | normal => exact rounds_goes hbody hq n s1 a' w' h hg1
      | exit id =>
        simp only [Option.some.injEq, Prod.mk.injEq] at h
        obtain ⟨rfl, rfl⟩ := h
        exact hq a' w' hg1
      | ret =>
        simp only [Option.some.injEq, Prod.mk.injEq] at h
        obtain ⟨rfl, rfl⟩ := h
        exact hq a' w' hg1

theorem code_goes (hm : cx.P.follows .mixedOrders = true) (hK : Known cx cl) : ∀ (cc : CCode) (c : Code), chkCode cx.P cx.num nt cc c = true → ∀ (s : St) (ex : AExit) (s' : St) (a : Act) (w : World) (Q : Exit → Act → World → Prop), runCode cl cc s = some (ex, s') → Good cx nt s a w →
    (∀ a' w', Good cx nt s' a' w' → Q ex.ex a' w') → c.wp cx.P Q a w
  | .skip, c, hc, s, ex, s', a, w, Q, h, hg, hq => by
    cases c <;> simp only [chkCode, Bool.false_eq_true] at hc
    simp only [runCode, Option.some.injEq, Prod.mk.injEq] at h
    obtain ⟨rfl, rfl⟩ := h
    exact wp_skip (hq a w hg)
  | .ret, c, hc, s, ex, s', a, w, Q, h, hg, hq => by
    cases c <;> simp only [chkCode, Bool.false_eq_true] at hc
    simp only [runCode, Option.some.injEq, Prod.mk.injEq] at h
    obtain ⟨rfl, rfl⟩ := h
    exact wp_ret (hq a w hg)
  | .exit id, c, hc, s, ex, s', a, w, Q, h, hg, hq => by
    cases c <;> simp only [chkCode, Bool.false_eq_true, beq_iff_eq] at hc
    subst hc
    simp only [runCode, Option.some.injEq, Prod.mk.injEq] at h
    obtain ⟨rfl, rfl⟩ := h
    exact wp_exit (hq a w hg)
  | .region cops keep, c, hc, s, ex, s', a, w, Q, h, hg, hq => by
    cases c <;> try (simp only [chkCode, Bool.false_eq_true] at hc; done)
    rename_i id ops draw
    cases draw <;> simp only [chkCode, Bool.false_eq_true] at hc
    simp only [runCode] at h
    cases h1 : runIns cl cops s.next s with
    | none => rw [h1] at h; cases h
    | some s1 =>
      rw [h1] at h
      simp only [Option.some.injEq, Prod.mk.injEq] at h
      obtain ⟨rfl, rfl⟩ := h
      obtain ⟨g, hcr, hu, hb⟩ := hg
      obtain ⟨hl, hops⟩ := chkOps_get hc
      rw [Array.length_toList] at hl
      refine wp_region ?_
      rw [List.range_eq_range', hl]
      refine seq_goes hK h1 rfl (fun j i hj => ?_) hcr hu (fun g' a' w' c' hu' => hq a' w' ⟨g', forget_corr c' keep _, hu', ?_⟩)
      · obtain ⟨o, h2, h3⟩ := hops j i hj
        exact ⟨o, by simpa using h2, h3⟩
      · show s1.base = cx.base
        rw [runIns_base h1]; exact hb
  | .quiet cops keep, c, hc, s, ex, s', a, w, Q, h, hg, hq => by
    cases c <;> try (simp only [chkCode, Bool.false_eq_true] at hc; done)
    rename_i id ops draw
    cases draw <;> simp only [chkCode, Bool.false_eq_true, Bool.and_eq_true] at hc
    simp only [runCode] at h
    cases h1 : runQuiet cl cops s.next s with
    | none => rw [h1] at h; cases h
    | some s1 =>
      rw [h1] at h
      simp only [Option.some.injEq, Prod.mk.injEq] at h
      obtain ⟨rfl, rfl⟩ := h
      obtain ⟨ts, h2, h3⟩ := runQuiet_loud h1
      exact draw_goes hm hK hc.1 hc.2.1 (free_quiet h3 hc.2.2) h2 hg keep hq
  | .loud cops deps keep, c, hc, s, ex, s', a, w, Q, h, hg, hq => by
    cases c <;> try (simp only [chkCode, Bool.false_eq_true] at hc; done)
    rename_i id ops draw
    cases draw <;> simp only [chkCode, Bool.false_eq_true, Bool.and_eq_true] at hc
    simp only [runCode] at h
    cases h1 : runLoud cl cops s.next s with
    | none => rw [h1] at h; cases h
    | some p =>
      obtain ⟨s1, ts⟩ := p
      rw [h1] at h
      simp only at h
      split at h
      case isFalse => cases h
      rename_i hclear
      simp only [Option.some.injEq, Prod.mk.injEq] at h
      obtain ⟨rfl, rfl⟩ := h
      exact draw_goes hm hK hc.1 hc.2.1 (free_items hclear hc.2.2) h1 hg keep hq
  | .seq x y, c, hc, s, ex, s', a, w, Q, h, hg, hq => by
    cases c <;> simp only [chkCode, Bool.false_eq_true, Bool.and_eq_true] at hc
    simp only [runCode] at h
    cases h1 : runCode cl x s with
    | none => rw [h1] at h; cases h
    | some p =>
      obtain ⟨ex1, s1⟩ := p
      rw [h1] at h
      refine wp_seq (code_goes hm hK x _ hc.1 s ex1 s1 a w _ h1 hg (fun a' w' hg' => ?_))
      cases ex1 with
      | normal => exact code_goes hm hK y _ hc.2 s1 ex s' a' w' Q h hg' hq
      | exit id =>
        simp only [Option.some.injEq, Prod.mk.injEq] at h
        obtain ⟨rfl, rfl⟩ := h
        exact hq a' w' hg'
      | ret =>
        simp only [Option.some.injEq, Prod.mk.injEq] at h
        obtain ⟨rfl, rfl⟩ := h
        exact hq a' w' hg'
  | .cond y x z, c, hc, s, ex, s', a, w, Q, h, hg, hq => by
    cases c <;> simp only [chkCode, Bool.false_eq_true, Bool.and_eq_true] at hc
    simp only [runCode] at h
    obtain ⟨g, hcr, hu, hb⟩ := hg
    have hr := opdB_rel hcr hc.1
    generalize y.ev s.slots = c1 at h hr
    rename_i xo _ _
    generalize hx : a.eval xo = v1 at hr
    cases c1 <;> try (cases h; done)
    rename_i t
    cases hr
    cases t with
    | true => exact wp_cond_true hx (code_goes hm hK x _ hc.2.1 s ex s' a w Q h ⟨g, hcr, hu, hb⟩ hq)
    | false => exact wp_cond_false hx (code_goes hm hK z _ hc.2.2 s ex s' a w Q h ⟨g, hcr, hu, hb⟩ hq)
  | .block id x, c, hc, s, ex, s', a, w, Q, h, hg, hq => by
    cases c <;> simp only [chkCode, Bool.false_eq_true, Bool.and_eq_true, beq_iff_eq] at hc
    obtain ⟨rfl, hc⟩ := hc
    simp only [runCode] at h
    cases h1 : runCode cl x s with
    | none => rw [h1] at h; cases h
    | some p =>
      obtain ⟨ex1, s1⟩ := p
      rw [h1] at h
      refine wp_block (code_goes hm hK x _ hc s ex1 s1 a w _ h1 hg (fun a' w' hg' => ?_))
      cases ex1 with
      | normal =>
        simp only [Option.some.injEq, Prod.mk.injEq] at h
        obtain ⟨rfl, rfl⟩ := h
        exact hq a' w' hg'
      | exit i =>
        simp only at h
        simp only [AExit.ex, Exit.inBlock]
        split at h
        · simp only [Option.some.injEq, Prod.mk.injEq] at h
          obtain ⟨rfl, rfl⟩ := h
          rw [if_pos ‹_›]
          exact hq a' w' hg'
        · simp only [Option.some.injEq, Prod.mk.injEq] at h
          obtain ⟨rfl, rfl⟩ := h
          rw [if_neg ‹_›]
          exact hq a' w' hg'
      | ret =>
        simp only [Option.some.injEq, Prod.mk.injEq] at h
        obtain ⟨rfl, rfl⟩ := h
        exact hq a' w' hg'
  | .loop keep x, c, hc, s, ex, s', a, w, Q, h, hg, hq => by
    cases c <;> simp only [chkCode, Bool.false_eq_true] at hc
    simp only [runCode] at h
    exact wp_loop_rounds big (rounds_goes (fun s ex' s1 a w Q' hf hg' hq' => code_goes hm hK x _ hc s ex' s1 a w Q' hf hg' hq') hq big s a w h hg)
end
end Go.Proofs.Ytfebkfeobdffjaa
