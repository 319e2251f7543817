/- What comes back from a call: closed values get numbers. -/
import Derived.Test.YtfebkfeobdffjaaStr
namespace Go.Proofs.Ytfebkfeobdffjaa
open Go Go.RowKit
set_option linter.unusedSimpArgs false

/-- Cells of a value that owns what it holds. -/
structure ClCells (w : World) (I N : Nat → Prop) (us : List Value) (cs : List AV) (fs : Nat → Nat → Prop) : Prop where
  size : us.length = cs.length
  cl : ∀ (i : Nat) (u : Value) (c : AV), us[i]? = some u → cs[i]? = some c → Cl w I u c (fs i)
  inN : ∀ i x, i < cs.length → fs i x → N x
  dis : ∀ i j x, i < cs.length → j < cs.length → fs i x → fs j x → i = j

/-- A value by itself, with all that it holds. -/
inductive Shut (w : World) (I N : Nat → Prop) : Value → AV → (Nat → Prop) → Prop
  | one (v : Value) (c : AV) (S : Nat → Prop) (h : Cl w I v c S) (hN : ∀ x, S x → N x) : Shut w I N v c S
  | agg (vs : Array Value) (cs : List AV) (fs : Nat → Nat → Prop) (S : Nat → Prop) (h : ClCells w I N vs.toList cs fs) (hS : ∀ x, S x ↔ ∃ i, i < cs.length ∧ fs i x) : Shut w I N (.agg vs) (.agg cs) S
  | cellp (b : Nat) (cur : Array Value) (e : TypeId) (cs : List AV) (fs : Nat → Nat → Prop) (S : Nat → Prop) (hh : w.heap[b]? = some (.cells cur e (0, 0))) (h : ClCells w I N cur.toList cs fs) (hb : ¬ N b)
      (hS : ∀ x, S x ↔ x = b ∨ ∃ i, i < cs.length ∧ fs i x) : Shut w I N (.pointer (some ⟨b, 0, none⟩)) (.cellp cs) S

/-- Several. -/
structure ShutL (w : World) (I N : Nat → Prop) (vs : List Value) (cs : List AV) (fs : Nat → Nat → Prop) : Prop where
  size : vs.length = cs.length
  sh : ∀ (i : Nat) (u : Value) (c : AV), vs[i]? = some u → cs[i]? = some c → Shut w I N u c (fs i)
  dis : ∀ i j x, i < cs.length → j < cs.length → fs i x → fs j x → i = j

def AV.isTup : AV → Bool
  | .tup _ => true
  | _ => false

/-- A call's result. -/
inductive ResRel (w : World) (I N : Nat → Prop) : Value → AV → (Nat → Prop) → Prop
  | one (v : Value) (c : AV) (S : Nat → Prop) (h : Shut w I N v c S) (ht : c.isTup = false) : ResRel w I N v c S
  | tup (vs : Array Value) (cs : List AV) (fs : Nat → Nat → Prop) (S : Nat → Prop) (h : ShutL w I N vs.toList cs fs) (hS : ∀ x, S x ↔ ∃ i, i < cs.length ∧ fs i x) : ResRel w I N (.tuple vs) (.tup cs) S

/-- A cell that has been opened: its array has a number, or it holds nothing of its own. -/
def OpenRel (gv : Nat → Value) (lo hi : Nat) (w : World) (I : Nat → Prop) (u : Value) (c : AV) : Prop :=
  (∃ n, c = .ref n ∧ lo ≤ n ∧ n < hi ∧ u = gv n ∧ u.oneCell' = true) ∨ ((∃ S, Cl w I u c S) ∧ ∀ sz xs, c ≠ .sl .own sz xs)

theorem OpenRel.srel {gv : Nat → Value} {lo hi : Nat} {w : World} {I : Nat → Prop} {u : Value} {c : AV} (h : OpenRel gv lo hi w I u c) {num : Nat → Option FuncId} {R : Nat → Prop} {g : Gh} {hp : Nat → Option AO} {ep : Nat}
    (hv : ∀ n, lo ≤ n → n < hi → g.v n = gv n ∧ g.used n) (hI : ∀ b, I b → g.I b) : u.oneCell' = true ∧ SRel num w R g hp ep u c := by
  rcases h with ⟨n, rfl, h1, h2, h3, h4⟩ | ⟨⟨S, h1⟩, h2⟩
  · obtain ⟨h5, h6⟩ := hv n h1 h2
    exact ⟨h4, .ref _ _ h4 h6 (fun _ _ => h3.trans h5.symm)⟩
  · refine ⟨h1.one, ?_⟩
    have h5 := h1.one
    cases h1 with
    | any => exact .any _
    | bool => exact .bool _
    | int => exact .int _ _
    | str => exact .str _
    | imm _ sz xs _ hb _ => exact .sl _ _ _ _ h5 (fun _ => hb.mono (Same.refl _ _) hI) (fun e he => by cases he) (by simp)
    | nil sz => exact absurd rfl (h2 _ _)
    | own sz xs => exact absurd rfl (h2 _ _)

theorem OpenRel.mono {gv gv' : Nat → Value} {lo hi lo' hi' : Nat} {w : World} {I : Nat → Prop} {u : Value} {c : AV} (h : OpenRel gv lo hi w I u c) (hv : ∀ n, lo ≤ n → n < hi → gv' n = gv n) (hl : lo' ≤ lo) (hh : hi ≤ hi') : OpenRel gv' lo' hi' w I u c := by
  rcases h with ⟨n, rfl, h1, h2, h3, h4⟩ | h
  · exact .inl ⟨n, rfl, by omega, by omega, by rw [hv n h1 h2]; exact h3, h4⟩
  · exact .inr h

/-- A new object. -/
def OObj (w : World) (I N : Nat → Prop) (gv : Nat → Value) (lo hi : Nat) (v : Value) (S : Nat → Prop) : AO → Prop
  | .arr sz xs => Cl w I v (.sl .own sz xs) S ∧ ∀ x, S x → N x
  | .box cells => ∃ b cur e, v = .pointer (some ⟨b, 0, none⟩) ∧ w.heap[b]? = some (.cells cur e (0, 0)) ∧ cur.size = cells.length ∧ (∀ x, S x ↔ x = b) ∧ ¬ N b ∧
      ∀ (i : Nat) (u : Value) (c : AV), cur[i]? = some u → cells[i]? = some c → OpenRel gv lo hi w I u c
  | .map _ _ => False

theorem OObj.mono {w : World} {I N : Nat → Prop} {gv gv' : Nat → Value} {lo hi lo' hi' : Nat} {v : Value} {S : Nat → Prop} {o : AO} (h : OObj w I N gv lo hi v S o) (hv : ∀ n, lo ≤ n → n < hi → gv' n = gv n) (hl : lo' ≤ lo) (hh : hi ≤ hi') : OObj w I N gv' lo' hi' v S o := by
  cases o with
  | arr sz xs => exact h
  | map _ _ => exact h
  | box cells =>
    obtain ⟨b, cur, e, h1, h2, h3, h4, h5, h6⟩ := h
    exact ⟨b, cur, e, h1, h2, h3, h4, h5, fun i u c hu hc => (h6 i u c hu hc).mono hv hl hh⟩

/-- New objects, with numbers from 'key' on. -/
structure Seg (w : World) (I N : Nat → Prop) (gv : Nat → Value) (gf : Nat → Nat → Prop) (key : Nat) (ws : List (Nat × Option AO)) (F : Nat → Prop) : Prop where
  nums : ∀ (j : Nat) (p : Nat × Option AO), ws[j]? = some p → p.1 = key + j
  obj : ∀ p ∈ ws, ∃ o, p.2 = some o ∧ OObj w I N gv key (key + ws.length) (gv p.1) (gf p.1) o
  inF : ∀ p ∈ ws, ∀ x, gf p.1 x → F x
  dis : ∀ p ∈ ws, ∀ q ∈ ws, ∀ x, gf p.1 x → gf q.1 x → p.1 = q.1

def Agree {α : Type} (f f' : Nat → α) (key len : Nat) : Prop := ∀ n, (n < key ∨ key + len ≤ n) → f' n = f n

section
variable {w : World} {I N : Nat → Prop}

theorem Seg.range {gv : Nat → Value} {gf : Nat → Nat → Prop} {key : Nat} {ws : List (Nat × Option AO)} {F : Nat → Prop} (h : Seg w I N gv gf key ws F) : ∀ p ∈ ws, key ≤ p.1 ∧ p.1 < key + ws.length := by
  intro p hp
  obtain ⟨j, hj⟩ := List.getElem?_of_mem hp
  have := h.nums j p hj
  have := (List.getElem?_eq_some_iff.1 hj).1
  omega

theorem Seg.nil (gv : Nat → Value) (gf : Nat → Nat → Prop) (key : Nat) (F : Nat → Prop) : Seg w I N gv gf key [] F :=
  ⟨fun j p h => by simp at h, fun p h => by simp at h, fun p h => by simp at h, fun p h => by simp at h⟩

theorem Seg.append {gv gv' : Nat → Value} {gf gf' : Nat → Nat → Prop} {key : Nat} {ws ws' : List (Nat × Option AO)} {F F' : Nat → Prop} (h : Seg w I N gv gf key ws F) (h' : Seg w I N gv' gf' (key + ws.length) ws' F')
    (av : Agree gv gv' (key + ws.length) ws'.length) (af : Agree gf gf' (key + ws.length) ws'.length) (hd : ∀ x, F x → ¬ F' x) : Seg w I N gv' gf' key (ws ++ ws') (fun x => F x ∨ F' x) := by
  have e1 : ∀ p ∈ ws, gv' p.1 = gv p.1 ∧ gf' p.1 = gf p.1 := fun p hp => by
    have := h.range p hp
    exact ⟨av _ (.inl (by omega)), af _ (.inl (by omega))⟩
  refine ⟨fun j p hj => ?_, fun p hp => ?_, fun p hp x hx => ?_, fun p hp q hq x hx hx' => ?_⟩
  · rw [List.getElem?_append] at hj
    split at hj
    · exact h.nums j p hj
    · have := h'.nums _ p hj; omega
  · rw [List.length_append]
    rcases List.mem_append.1 hp with hp | hp
    · obtain ⟨o, h1, h2⟩ := h.obj p hp
      rw [(e1 p hp).1, (e1 p hp).2]
      exact ⟨o, h1, h2.mono (fun n h3 h4 => av n (.inl h4)) (Nat.le_refl _) (by omega)⟩
    · obtain ⟨o, h1, h2⟩ := h'.obj p hp
      exact ⟨o, h1, h2.mono (fun _ _ _ => rfl) (by omega) (by omega)⟩
  · rcases List.mem_append.1 hp with hp | hp
    · rw [(e1 p hp).2] at hx; exact .inl (h.inF p hp x hx)
    · exact .inr (h'.inF p hp x hx)
  · rcases List.mem_append.1 hp with hp | hp <;> rcases List.mem_append.1 hq with hq | hq
    · rw [(e1 p hp).2] at hx; rw [(e1 q hq).2] at hx'; exact h.dis p hp q hq x hx hx'
    · rw [(e1 p hp).2] at hx; exact absurd (h'.inF q hq x hx') (hd x (h.inF p hp x hx))
    · rw [(e1 q hq).2] at hx'; exact absurd (h'.inF p hp x hx) (hd x (h.inF q hq x hx'))
    · exact h'.dis p hp q hq x hx hx'

theorem Seg.weak {gv : Nat → Value} {gf : Nat → Nat → Prop} {key : Nat} {ws : List (Nat × Option AO)} {F F' : Nat → Prop} (h : Seg w I N gv gf key ws F) (hF : ∀ x, F x → F' x) : Seg w I N gv gf key ws F' :=
  ⟨h.nums, h.obj, fun p hp x hx => hF x (h.inF p hp x hx), h.dis⟩

theorem Agree.refl {α : Type} (f : Nat → α) (key len : Nat) : Agree f f key len := fun _ _ => rfl
theorem Agree.append {α : Type} {f f' f'' : Nat → α} {key a b : Nat} (h : Agree f f' key a) (h' : Agree f' f'' (key + a) b) : Agree f f'' key (a + b) := by
  intro n hn
  rw [h' n (by omega), h n (by omega)]

theorem open1_seg {u : Value} {c : AV} {S : Nat → Prop} (h : Cl w I u c S) (hN : ∀ x, S x → N x) (gv0 : Nat → Value) (gf0 : Nat → Nat → Prop) (key : Nat) :
    ∃ gv gf, Agree gv0 gv key (open1 key c).2.length ∧ Agree gf0 gf key (open1 key c).2.length ∧ Seg w I N gv gf key (open1 key c).2 S ∧ OpenRel gv key (key + (open1 key c).2.length) w I u (open1 key c).1 := by
  have other : (∀ sz xs, c ≠ .sl .own sz xs) → open1 key c = (c, []) := by
    intro hn
    cases c <;> try rfl
    rename_i md sz xs
    cases md <;> first | rfl | exact absurd rfl (hn _ _)
  by_cases hc : ∃ sz xs, c = .sl .own sz xs
  · obtain ⟨sz, xs, rfl⟩ := hc
    refine ⟨upd gv0 key u, upd gf0 key S, fun n hn => ?_, fun n hn => ?_, ⟨fun j p hj => ?_, fun p hp => ?_, fun p hp x hx => ?_, fun p hp q hq _ _ _ => ?_⟩, .inl ⟨key, rfl, Nat.le_refl _, by simp [open1], by simp [upd], h.one⟩⟩
    · simp only [open1, List.length_singleton] at hn; simp only [upd]; rw [if_neg (by omega)]
    · simp only [open1, List.length_singleton] at hn; simp only [upd]; rw [if_neg (by omega)]
    · simp only [open1] at hj
      cases j with
      | zero => simp only [List.getElem?_cons_zero, Option.some.injEq] at hj; rw [← hj]; rfl
      | succ j => simp at hj
    · simp only [open1, List.mem_singleton] at hp
      subst hp
      exact ⟨_, rfl, by simpa [upd] using h, by simpa [upd] using hN⟩
    · simp only [open1, List.mem_singleton] at hp
      subst hp
      simpa [upd] using hx
    · simp only [open1, List.mem_singleton] at hp hq
      rw [hp, hq]
  · have hn : ∀ sz xs, c ≠ .sl .own sz xs := fun sz xs e => hc ⟨sz, xs, e⟩
    rw [other hn]
    exact ⟨gv0, gf0, Agree.refl _ _ _, Agree.refl _ _ _, Seg.nil _ _ _ _, .inr ⟨⟨S, h⟩, hn⟩⟩

theorem openL_length (key : Nat) : ∀ cs : List AV, (openL key cs).1.length = cs.length := by
  intro cs
  induction cs generalizing key with
  | nil => rfl
  | cons c cs ih => simp [openL, ih]

theorem openL_seg : ∀ {us : List Value} {cs : List AV} {fs : Nat → Nat → Prop}, ClCells w I N us cs fs → ∀ (gv0 : Nat → Value) (gf0 : Nat → Nat → Prop) (key : Nat),
    ∃ gv gf, Agree gv0 gv key (openL key cs).2.length ∧ Agree gf0 gf key (openL key cs).2.length ∧ Seg w I N gv gf key (openL key cs).2 (fun x => ∃ i, i < cs.length ∧ fs i x) ∧
      ∀ (i : Nat) (u : Value) (c : AV), us[i]? = some u → (openL key cs).1[i]? = some c → OpenRel gv key (key + (openL key cs).2.length) w I u c
  | [], [], fs, _, gv0, gf0, key => ⟨gv0, gf0, Agree.refl _ _ _, Agree.refl _ _ _, Seg.nil _ _ _ _, fun i u c hu => by simp at hu⟩
  | [], _ :: _, _, h, _, _, _ => by have := h.size; simp at this
  | _ :: _, [], _, h, _, _, _ => by have := h.size; simp at this
  | u :: us, c :: cs, fs, h, gv0, gf0, key => by
    obtain ⟨gv1, gf1, a1, b1, s1, r1⟩ := open1_seg (N := N) (h.cl 0 u c rfl rfl) (fun x hx => h.inN 0 x (by simp) hx) gv0 gf0 key
    have ht : ClCells w I N us cs (fun i => fs (i + 1)) := ⟨by have := h.size; simpa using this, fun i v d hv hd => h.cl (i + 1) v d (by simpa using hv) (by simpa using hd),
      fun i x hi hx => h.inN (i + 1) x (by simp; omega) hx, fun i j x hi hj h1 h2 => by have := h.dis (i + 1) (j + 1) x (by simp; omega) (by simp; omega) h1 h2; omega⟩
    obtain ⟨gv2, gf2, a2, b2, s2, r2⟩ := openL_seg ht gv1 gf1 (key + (open1 key c).2.length)
    have hlen : (openL key (c :: cs)).2.length = (open1 key c).2.length + (openL (key + (open1 key c).2.length) cs).2.length := by simp [openL]
    refine ⟨gv2, gf2, by rw [hlen]; exact a1.append a2, by rw [hlen]; exact b1.append b2, ?_, ?_⟩
    · refine (s1.append s2 a2 b2 (fun x hx => ?_)).weak ?_
      · rintro ⟨i, hi, hx2⟩
        have := h.dis 0 (i + 1) x (by simp) (by simp; omega) hx hx2
        omega
      · rintro x (hx | ⟨i, hi, hx⟩)
        · exact ⟨0, by simp, hx⟩
        · exact ⟨i + 1, by simp; omega, hx⟩
    · intro i v d hv hd
      rw [hlen]
      cases i with
      | zero =>
        simp only [openL, List.getElem?_cons_zero, Option.some.injEq] at hv hd
        subst hv; subst hd
        exact r1.mono (fun n h1 h2 => a2 n (.inl h2)) (Nat.le_refl _) (by omega)
      | succ i =>
        exact (r2 i v d (by simpa using hv) (by simpa [openL] using hd)).mono (fun _ _ _ => rfl) (by omega) (by omega)

/-- A value that has been opened. -/
inductive OpenV (gv : Nat → Value) (lo hi : Nat) (w : World) (I : Nat → Prop) (isBox : Nat → Prop) : Value → AV → Prop
  | one (u : Value) (c : AV) (h : OpenRel gv lo hi w I u c) : OpenV gv lo hi w I isBox u c
  | agg (us : Array Value) (cs : List AV) (hl : us.size = cs.length) (h : ∀ (i : Nat) (u : Value) (c : AV), us[i]? = some u → cs[i]? = some c → OpenRel gv lo hi w I u c) : OpenV gv lo hi w I isBox (.agg us) (.agg cs)
  | ptr (n b : Nat) (h1 : lo ≤ n) (h2 : n < hi) (hb : isBox n) (hv : gv n = .pointer (some ⟨b, 0, none⟩)) : OpenV gv lo hi w I isBox (.pointer (some ⟨b, 0, none⟩)) (.ptr n 0 0)

/-- The new numbers that are variables. -/
def BoxIn (ws : List (Nat × Option AO)) (n : Nat) : Prop := ∃ cells, (n, some (.box cells)) ∈ ws

theorem OpenV.mono {gv gv' : Nat → Value} {lo hi lo' hi' : Nat} {B B' : Nat → Prop} {u : Value} {c : AV} (h : OpenV gv lo hi w I B u c) (hv : ∀ n, lo ≤ n → n < hi → gv' n = gv n) (hl : lo' ≤ lo) (hh : hi ≤ hi') (hB : ∀ n, B n → B' n) : OpenV gv' lo' hi' w I B' u c := by
  cases h with
  | one u c h => exact .one u c (h.mono hv hl hh)
  | agg us cs hl' h => exact .agg us cs hl' fun i u c hu hc => (h i u c hu hc).mono hv hl hh
  | ptr n b h1 h2 hb hv' => exact .ptr n b (by omega) (by omega) (hB n hb) (by rw [hv n h1 h2]; exact hv')

theorem openV_seg {v : Value} {c : AV} {S : Nat → Prop} (h : Shut w I N v c S) (gv0 : Nat → Value) (gf0 : Nat → Nat → Prop) (key : Nat) :
    ∃ gv gf, Agree gv0 gv key (openV key c).2.length ∧ Agree gf0 gf key (openV key c).2.length ∧ Seg w I N gv gf key (openV key c).2 S ∧ OpenV gv key (key + (openV key c).2.length) w I (BoxIn (openV key c).2) v (openV key c).1 := by
  cases h with
  | one v c S h hN =>
    have hc : openV key c = open1 key c := by
      cases h <;> rfl
    rw [hc]
    obtain ⟨gv, gf, h1, h2, h3, h4⟩ := open1_seg h hN gv0 gf0 key
    exact ⟨gv, gf, h1, h2, h3, .one _ _ h4⟩
  | agg vs cs fs S h hS =>
    obtain ⟨gv, gf, h1, h2, h3, h4⟩ := openL_seg h gv0 gf0 key
    exact ⟨gv, gf, h1, h2, h3.weak fun x hx => (hS x).2 hx, .agg _ _ (by rw [openL_length]; simpa using h.size) fun i u c hu hc => h4 i u c (by simpa using hu) hc⟩
  | cellp b cur e cs fs S hh h hb hS =>
    obtain ⟨gv, gf, h1, h2, h3, h4⟩ := openL_seg h (upd gv0 key (.pointer (some ⟨b, 0, none⟩))) (upd gf0 key fun x => x = b) (key + 1)
    have hlen : (openV key (.cellp cs)).2.length = 1 + (openL (key + 1) cs).2.length := by simp [openV]; omega
    have ek : gv key = .pointer (some ⟨b, 0, none⟩) := by rw [h1 key (.inl (by omega))]; simp [upd]
    have ef : gf key = fun x => x = b := by rw [h2 key (.inl (by omega))]; simp [upd]
    refine ⟨gv, gf, ?_, ?_, ?_, ?_⟩
    · rw [hlen]
      refine Agree.append (f' := upd gv0 key (.pointer (some ⟨b, 0, none⟩))) (fun n hn => ?_) h1
      simp only [upd]; rw [if_neg (by omega)]
    · rw [hlen]
      refine Agree.append (f' := upd gf0 key fun x => x = b) (fun n hn => ?_) h2
      simp only [upd]; rw [if_neg (by omega)]
    · refine ⟨fun j p hj => ?_, fun p hp => ?_, fun p hp x hx => ?_, fun p hp q hq x hx hx' => ?_⟩
      · simp only [openV] at hj
        cases j with
        | zero => simp only [List.getElem?_cons_zero, Option.some.injEq] at hj; rw [← hj]; rfl
        | succ j => have := h3.nums j p (by simpa using hj); omega
      · simp only [openV, List.mem_cons] at hp
        rw [hlen]
        rcases hp with rfl | hp
        · rw [ek, ef]
          refine ⟨_, rfl, b, cur, e, rfl, hh, by rw [openL_length]; simpa using h.size, fun x => Iff.rfl, hb, fun i u c hu hc => ?_⟩
          exact (h4 i u c (by simpa using hu) hc).mono (fun _ _ _ => rfl) (by omega) (by omega)
        · obtain ⟨o, h5, h6⟩ := h3.obj p hp
          exact ⟨o, h5, h6.mono (fun _ _ _ => rfl) (by omega) (by omega)⟩
      · simp only [openV, List.mem_cons] at hp
        rcases hp with rfl | hp
        · rw [ef] at hx; exact (hS x).2 (.inl hx)
        · exact (hS x).2 (.inr (h3.inF p hp x hx))
      · simp only [openV, List.mem_cons] at hp hq
        have hbn : ∀ p ∈ (openL (key + 1) cs).2, ¬ gf p.1 b := fun p hp hx => by
          obtain ⟨i, hi, hx⟩ := h3.inF p hp b hx
          exact hb (h.inN i b hi hx)
        rcases hp with rfl | hp <;> rcases hq with rfl | hq
        · rfl
        · rw [ef] at hx; exact absurd (hx ▸ hx') (hbn q hq)
        · rw [ef] at hx'; exact absurd (hx' ▸ hx) (hbn p hp)
        · exact h3.dis p hp q hq x hx hx'
    · refine .ptr key b (Nat.le_refl _) (by rw [hlen]; omega) ⟨_, by simp [openV]; exact .inl rfl⟩ ek

theorem openT_length (key : Nat) : ∀ cs : List AV, (openT key cs).1.length = cs.length := by
  intro cs
  induction cs generalizing key with
  | nil => rfl
  | cons c cs ih => simp [openT, ih]

theorem openT_seg : ∀ {us : List Value} {cs : List AV} {fs : Nat → Nat → Prop}, ShutL w I N us cs fs → ∀ (gv0 : Nat → Value) (gf0 : Nat → Nat → Prop) (key : Nat),
    ∃ gv gf, Agree gv0 gv key (openT key cs).2.length ∧ Agree gf0 gf key (openT key cs).2.length ∧ Seg w I N gv gf key (openT key cs).2 (fun x => ∃ i, i < cs.length ∧ fs i x) ∧
      ∀ (i : Nat) (u : Value) (c : AV), us[i]? = some u → (openT key cs).1[i]? = some c → OpenV gv key (key + (openT key cs).2.length) w I (BoxIn (openT key cs).2) u c
  | [], [], fs, _, gv0, gf0, key => ⟨gv0, gf0, Agree.refl _ _ _, Agree.refl _ _ _, Seg.nil _ _ _ _, fun i u c hu => by simp at hu⟩
  | [], _ :: _, _, h, _, _, _ => by have := h.size; simp at this
  | _ :: _, [], _, h, _, _, _ => by have := h.size; simp at this
  | u :: us, c :: cs, fs, h, gv0, gf0, key => by
    obtain ⟨gv1, gf1, a1, b1, s1, r1⟩ := openV_seg (h.sh 0 u c rfl rfl) gv0 gf0 key
    have ht : ShutL w I N us cs (fun i => fs (i + 1)) := ⟨by have := h.size; simpa using this, fun i v d hv hd => h.sh (i + 1) v d (by simpa using hv) (by simpa using hd),
      fun i j x hi hj h1 h2 => by have := h.dis (i + 1) (j + 1) x (by simp; omega) (by simp; omega) h1 h2; omega⟩
    obtain ⟨gv2, gf2, a2, b2, s2, r2⟩ := openT_seg ht gv1 gf1 (key + (openV key c).2.length)
    have hlen : (openT key (c :: cs)).2.length = (openV key c).2.length + (openT (key + (openV key c).2.length) cs).2.length := by simp [openT]
    refine ⟨gv2, gf2, by rw [hlen]; exact a1.append a2, by rw [hlen]; exact b1.append b2, ?_, ?_⟩
    · refine (s1.append s2 a2 b2 (fun x hx => ?_)).weak ?_
      · rintro ⟨i, hi, hx2⟩
        have := h.dis 0 (i + 1) x (by simp) (by simp; omega) hx hx2
        omega
      · rintro x (hx | ⟨i, hi, hx⟩)
        · exact ⟨0, by simp, hx⟩
        · exact ⟨i + 1, by simp; omega, hx⟩
    · intro i v d hv hd
      rw [hlen]
      cases i with
      | zero =>
        simp only [openT, List.getElem?_cons_zero, Option.some.injEq] at hv hd
        subst hv; subst hd
        exact r1.mono (fun n h1 h2 => a2 n (.inl h2)) (Nat.le_refl _) (by omega) (fun n ⟨cells, hc⟩ => ⟨cells, by simp only [openT, List.mem_append]; exact .inl hc⟩)
      | succ i =>
        exact (r2 i v d (by simpa using hv) (by simpa [openT] using hd)).mono (fun _ _ _ => rfl) (by omega) (by omega) (fun n ⟨cells, hc⟩ => ⟨cells, by simp only [openT, List.mem_append]; exact .inr hc⟩)

/-- A call's result that has been opened. -/
inductive OpenT (gv : Nat → Value) (lo hi : Nat) (w : World) (I : Nat → Prop) (isBox : Nat → Prop) : Value → AV → Prop
  | one (u : Value) (c : AV) (h : OpenV gv lo hi w I isBox u c) : OpenT gv lo hi w I isBox u c
  | tup (us : Array Value) (cs : List AV) (hl : us.size = cs.length) (h : ∀ (i : Nat) (u : Value) (c : AV), us[i]? = some u → cs[i]? = some c → OpenV gv lo hi w I isBox u c) : OpenT gv lo hi w I isBox (.tuple us) (.tup cs)

theorem openR_seg {v : Value} {c : AV} {S : Nat → Prop} (h : ResRel w I N v c S) (gv0 : Nat → Value) (gf0 : Nat → Nat → Prop) (key : Nat) :
    ∃ gv gf, Agree gv0 gv key (openR key c).2.length ∧ Agree gf0 gf key (openR key c).2.length ∧ Seg w I N gv gf key (openR key c).2 S ∧ OpenT gv key (key + (openR key c).2.length) w I (BoxIn (openR key c).2) v (openR key c).1 := by
  cases h with
  | one v c S h ht =>
    have hc : openR key c = openV key c := by
      cases c <;> first | rfl | (simp [AV.isTup] at ht)
    rw [hc]
    obtain ⟨gv, gf, h1, h2, h3, h4⟩ := openV_seg h gv0 gf0 key
    exact ⟨gv, gf, h1, h2, h3, .one _ _ h4⟩
  | tup vs cs fs S h hS =>
    obtain ⟨gv, gf, h1, h2, h3, h4⟩ := openT_seg h gv0 gf0 key
    exact ⟨gv, gf, h1, h2, h3.weak fun x hx => (hS x).2 hx, .tup _ _ (by rw [openT_length]; simpa using h.size) fun i u c hu hc => h4 i u c (by simpa using hu) hc⟩

theorem OpenV.srel {gv : Nat → Value} {lo hi : Nat} {B : Nat → Prop} {u : Value} {c : AV} (h : OpenV gv lo hi w I B u c) {num : Nat → Option FuncId} {R : Nat → Prop} {g : Gh} {hp : Nat → Option AO} {ep : Nat}
    (hv : ∀ n, lo ≤ n → n < hi → g.v n = gv n ∧ g.used n) (hI : ∀ b, I b → g.I b) (hB : ∀ n, B n → ∀ o, hp n = some o → ∃ cells, o = .box cells) : SRel num w R g hp ep u c := by
  cases h with
  | one u c h => exact (h.srel hv hI).2
  | agg us cs hl h =>
    refine .agg _ _ hl (fun i v hv' => ?_) (fun i v c hv' hc => ((h i v c hv' hc).srel hv hI).2)
    have hi2 := (Array.getElem?_eq_some_iff.1 hv').1
    exact ((h i v _ hv' (List.getElem?_eq_getElem (by omega))).srel (num := num) (R := R) (hp := hp) (ep := ep) hv hI).1
  | ptr n b h1 h2 hb hv' =>
    obtain ⟨h5, h6⟩ := hv n h1 h2
    refine .ptr _ _ _ _ rfl h6 (fun o ho => ?_)
    obtain ⟨cells, rfl⟩ := hB n hb o ho
    exact ⟨b, by rw [h5, hv'], rfl⟩

theorem OpenT.srel {gv : Nat → Value} {lo hi : Nat} {B : Nat → Prop} {u : Value} {c : AV} (h : OpenT gv lo hi w I B u c) {num : Nat → Option FuncId} {R : Nat → Prop} {g : Gh} {hp : Nat → Option AO} {ep : Nat}
    (hv : ∀ n, lo ≤ n → n < hi → g.v n = gv n ∧ g.used n) (hI : ∀ b, I b → g.I b) (hB : ∀ n, B n → ∀ o, hp n = some o → ∃ cells, o = .box cells) : SRel num w R g hp ep u c := by
  cases h with
  | one u c h => exact h.srel hv hI hB
  | tup us cs hl h => exact .tup _ _ hl (fun i v c hv' hc => (h i v c hv' hc).srel hv hI hB)
end
end Go.Proofs.Ytfebkfeobdffjaa
