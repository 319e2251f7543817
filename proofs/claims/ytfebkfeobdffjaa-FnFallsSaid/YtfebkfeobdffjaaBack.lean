/- What was given away comes back. -/
import Derived.Test.YtfebkfeobdffjaaSeg
namespace Go.Proofs.Ytfebkfeobdffjaa
open Go Go.RowKit
set_option linter.unusedSimpArgs false

def AO.av : AO → AV
  | .box cs => .cellp cs
  | .arr sz xs => .sl .own sz xs
  | .map _ _ => .tup []

section
variable {w : World} {I N : Nat → Prop}

theorem Shut.av_inv {v : Value} {o : AO} {S : Nat → Prop} (h : Shut w I N v o.av S) :
    (∃ sz xs, o = .arr sz xs ∧ Cl w I v (.sl .own sz xs) S ∧ ∀ x, S x → N x) ∨
    ∃ b cur e cs fs, o = .box cs ∧ v = .pointer (some ⟨b, 0, none⟩) ∧ w.heap[b]? = some (.cells cur e (0, 0)) ∧ ClCells w I N cur.toList cs fs ∧ ¬ N b ∧ ∀ x, S x ↔ x = b ∨ ∃ i, i < cs.length ∧ fs i x := by
  cases o with
  | arr sz xs =>
    cases h with
    | one v c S h hN => exact .inl ⟨sz, xs, rfl, h, hN⟩
  | box cs =>
    cases h with
    | one v c S h hN => cases h
    | cellp b cur e _ fs S hh h hb hS => exact .inr ⟨b, cur, e, cs, fs, rfl, rfl, hh, h, hb, hS⟩
  | map _ _ =>
    cases h with
    | one v c S h hN => cases h

/-- How the given objects are when they come back: their own blocks ('hf'), apart from what has got new numbers. -/
structure Heads (w : World) (I N : Nat → Prop) (gv : Nat → Value) (lo hi : Nat) (v0 : Nat → Value) (fo hf : Nat → Nat → Prop) (ids : List Nat) (outs : List (Option AO)) (heads : List (Nat × Option AO)) : Prop where
  size : heads.length = ids.length
  num : ∀ (k : Nat) (p : Nat × Option AO), heads[k]? = some p → ids[k]? = some p.1
  obj : ∀ (k : Nat) (p : Nat × Option AO) (o1 : AO), heads[k]? = some p → p.2 = some o1 → ∃ o, outs[k]? = some (some o) ∧ o.alike o1 ∧ OObj w I N gv lo hi (v0 k) (hf k) o1
  inF : ∀ k, k < ids.length → ∀ x, hf k x → fo k x

theorem takeBack_seg : ∀ {ids : List Nat} {outs : List (Option AO)} {v0 : Nat → Value} {fo : Nat → Nat → Prop}, ids.length = outs.length → (∀ k o, outs[k]? = some (some o) → Shut w I N (v0 k) o.av (fo k)) →
    (∀ k l x, k < ids.length → l < ids.length → fo k x → fo l x → k = l) → ∀ (gv0 : Nat → Value) (gf0 : Nat → Nat → Prop) (key : Nat),
    ∃ gv gf hf, Agree gv0 gv key (takeBack key ids outs).2.length ∧ Agree gf0 gf key (takeBack key ids outs).2.length ∧
      Seg w I N gv gf key (takeBack key ids outs).2 (fun x => ∃ k, k < ids.length ∧ fo k x) ∧ Heads w I N gv key (key + (takeBack key ids outs).2.length) v0 fo hf ids outs (takeBack key ids outs).1 ∧
      (∀ k, k < ids.length → ∀ x, hf k x → ∀ q ∈ (takeBack key ids outs).2, ¬ gf q.1 x)
  | [], [], v0, fo, _, _, _, gv0, gf0, key => ⟨gv0, gf0, fun _ _ => False, Agree.refl _ _ _, Agree.refl _ _ _, Seg.nil _ _ _ _, ⟨rfl, fun k p h => by simp [takeBack] at h, fun k p o h => by simp [takeBack] at h, fun k hk => by simp at hk⟩, fun k hk => by simp at hk⟩
  | [], _ :: _, _, _, h, _, _, _, _, _ => by simp at h
  | _ :: _, [], _, _, h, _, _, _, _, _ => by simp at h
  | id :: ids, o :: outs, v0, fo, hl, hsh, hdis, gv0, gf0, key => by
    have hsh' : ∀ k o, outs[k]? = some (some o) → Shut w I N (v0 (k + 1)) o.av (fo (k + 1)) := fun k o h => hsh (k + 1) o (by simpa using h)
    have hdis' : ∀ k l x, k < ids.length → l < ids.length → fo (k + 1) x → fo (l + 1) x → k = l := fun k l x hk hl' h1 h2 => by
      have := hdis (k + 1) (l + 1) x (by simp; omega) (by simp; omega) h1 h2; omega
    -- an entry that opens nothing
    have flat : ∀ (hf0 : Nat → Prop), takeBack key (id :: ids) (o :: outs) = ((id, o) :: (takeBack key ids outs).1, (takeBack key ids outs).2) → (∀ o1, o = some o1 → ∀ (gv : Nat → Value) (hi : Nat), OObj w I N gv key hi (v0 0) hf0 o1) → (∀ x, hf0 x → fo 0 x) →
        ∃ gv gf hf, Agree gv0 gv key (takeBack key (id :: ids) (o :: outs)).2.length ∧ Agree gf0 gf key (takeBack key (id :: ids) (o :: outs)).2.length ∧
        Seg w I N gv gf key (takeBack key (id :: ids) (o :: outs)).2 (fun x => ∃ k, k < (id :: ids).length ∧ fo k x) ∧ Heads w I N gv key (key + (takeBack key (id :: ids) (o :: outs)).2.length) v0 fo hf (id :: ids) (o :: outs) (takeBack key (id :: ids) (o :: outs)).1 ∧
        (∀ k, k < (id :: ids).length → ∀ x, hf k x → ∀ q ∈ (takeBack key (id :: ids) (o :: outs)).2, ¬ gf q.1 x) := by
      intro hf0 htb hob hin
      obtain ⟨gv, gf, hf, a, b, sg, hd, ap⟩ := takeBack_seg (by simpa using hl) hsh' hdis' gv0 gf0 key
      rw [htb]
      refine ⟨gv, gf, fun k => match k with | 0 => hf0 | k + 1 => hf k, a, b, sg.weak ?_, ⟨by simp [hd.size], ?_, ?_, ?_⟩, ?_⟩
      · rintro x ⟨k, hk, hx⟩; exact ⟨k + 1, by simp; omega, hx⟩
      · intro k p hp
        cases k with
        | zero => simp only [List.getElem?_cons_zero, Option.some.injEq] at hp; rw [← hp]; rfl
        | succ k => have := hd.num k p (by simpa using hp); simpa using this
      · intro k p o1 hp ho1
        cases k with
        | zero =>
          simp only [List.getElem?_cons_zero, Option.some.injEq] at hp
          rw [← hp] at ho1
          exact ⟨o1, by simpa using ho1, AO.alike_refl _, hob o1 ho1 gv _⟩
        | succ k =>
          obtain ⟨o2, h1, h2, h3⟩ := hd.obj k p o1 (by simpa using hp) ho1
          exact ⟨o2, by simpa using h1, h2, h3⟩
      · intro k hk x hx
        cases k with
        | zero => exact hin x hx
        | succ k => exact hd.inF k (by simpa using hk) x hx
      · intro k hk x hx q hq hg
        cases k with
        | zero =>
          obtain ⟨l, hl', hx2⟩ := sg.inF q hq x hg
          have := hdis 0 (l + 1) x (by simp) (by simp; omega) (hin x hx) hx2
          omega
        | succ k => exact ap k (by simpa using hk) x hx q hq hg
    cases o with
    | none => exact flat (fun _ => False) (by simp [takeBack]) (fun o1 h => by cases h) (fun _ h => h.elim)
    | some o =>
      rcases (hsh 0 o rfl).av_inv with ⟨sz, xs, rfl, h1, h2⟩ | ⟨bb, cur, e, cs, fs, rfl, hv, hh, hc, hb, hS⟩
      · exact flat (fo 0) (by simp [takeBack]) (fun o1 h gv hi => by obtain rfl := Option.some.inj h; exact ⟨h1, h2⟩) (fun _ h => h)
      · obtain ⟨gv1, gf1, a1, b1, s1, r1⟩ := openL_seg hc gv0 gf0 key
        obtain ⟨gv, gf, hf, a, b, sg, hd, ap⟩ := takeBack_seg (by simpa using hl) hsh' hdis' gv1 gf1 (key + (openL key cs).2.length)
        have htb : takeBack key (id :: ids) (some (.box cs) :: outs) = ((id, some (.box (openL key cs).1)) :: (takeBack (key + (openL key cs).2.length) ids outs).1, (openL key cs).2 ++ (takeBack (key + (openL key cs).2.length) ids outs).2) := by simp [takeBack]
        rw [htb]
        have hf0 : ∀ x, (∃ i, i < cs.length ∧ fs i x) → fo 0 x := fun x hx => (hS x).2 (.inr hx)
        refine ⟨gv, gf, fun k => match k with | 0 => (fun x => x = bb) | k + 1 => hf k, by simp only [List.length_append]; exact a1.append a, by simp only [List.length_append]; exact b1.append b, (s1.append sg a b ?_).weak ?_, ⟨by simp [hd.size], ?_, ?_, ?_⟩, ?_⟩
        · rintro x hx ⟨l, hl', hx2⟩
          have := hdis 0 (l + 1) x (by simp) (by simp; omega) (hf0 x hx) hx2
          omega
        · rintro x (hx | ⟨k, hk, hx⟩)
          · exact ⟨0, by simp, hf0 x hx⟩
          · exact ⟨k + 1, by simp; omega, hx⟩
        · intro k p hp
          cases k with
          | zero => simp only [List.getElem?_cons_zero, Option.some.injEq] at hp; rw [← hp]; rfl
          | succ k => have := hd.num k p (by simpa using hp); simpa using this
        · intro k p o1 hp ho1
          simp only [List.length_append]
          cases k with
          | zero =>
            simp only [List.getElem?_cons_zero, Option.some.injEq] at hp
            rw [← hp] at ho1
            simp only [Option.some.injEq] at ho1
            subst ho1
            refine ⟨_, rfl, trivial, bb, cur, e, hv, hh, by rw [openL_length]; simpa using hc.size, fun x => Iff.rfl, hb, fun i u c hu hcc => ?_⟩
            exact (r1 i u c (by simpa using hu) hcc).mono (fun n h3 h4 => a n (.inl h4)) (Nat.le_refl _) (by omega)
          | succ k =>
            obtain ⟨o2, h1, h2, h3⟩ := hd.obj k p o1 (by simpa using hp) ho1
            exact ⟨o2, by simpa using h1, h2, h3.mono (fun _ _ _ => rfl) (by omega) (by omega)⟩
        · intro k hk x hx
          cases k with
          | zero => exact (hS x).2 (.inl hx)
          | succ k => exact hd.inF k (by simpa using hk) x hx
        · intro k hk x hx q hq hg
          rcases List.mem_append.1 hq with hq | hq
          · have hr := s1.range q hq
            rw [b q.1 (.inl hr.2)] at hg
            have hin := s1.inF q hq x hg
            cases k with
            | zero =>
              obtain ⟨i, hi, hx2⟩ := hin
              have hx' : x = bb := hx
              exact hb (hx' ▸ hc.inN i x hi hx2)
            | succ k =>
              have := hdis 0 (k + 1) x (by simp) hk (hf0 x hin) (hd.inF k (by simpa using hk) x hx)
              omega
          · cases k with
            | zero =>
              obtain ⟨l, hl', hx2⟩ := sg.inF q hq x hg
              have := hdis 0 (l + 1) x (by simp) (by simp; omega) ((hS x).2 (.inl hx)) hx2
              omega
            | succ k => exact ap k (by simpa using hk) x hx q hq hg
end
end Go.Proofs.Ytfebkfeobdffjaa
