/- Operations that do not meet may change places: plain Lean, no memory here. -/
import Derived.Test.YtfebkfeobdffjaaLoc
namespace Go.Proofs.Ytfebkfeobdffjaa
open Go
set_option linter.unusedSimpArgs false

def Opd.tmps : Opd → List Nat
  | .tmp t => [t]
  | .const _ => []

/-- The slots that an operation looks at. -/
def CIns.sees (i : CIns) : List Nat := i.op.opds.flatMap Opd.tmps ++ (match i.guard with | some (t, _) => [t] | none => [])

/-- Two operations have no slot in common that one of them fills. -/
def CIns.apart (i j : CIns) : Bool :=
  (match i.dst with | some d => !(j.sees.contains d) && j.dst != some d | none => true) && (match j.dst with | some d => !(i.sees.contains d) | none => true)

/-- Every two operations that may change places are apart. -/
def slotsOf (a : CIns) (i : Nat) : List CIns → List Nat → Bool
  | b :: bs, d :: ds => (d.testBit i || a.apart b) && slotsOf a i bs ds
  | [], [] => true
  | _, _ => false

def slotsClear (i : Nat) : List CIns → List Nat → Bool
  | a :: as, _ :: ds => slotsOf a i as ds && slotsClear (i + 1) as ds
  | [], [] => true
  | _, _ => false

theorem wsOn_skip : ∀ (ws : List (Nat × Option AO)) (h : Nat → Option AO) (n : Nat), (∀ p ∈ ws, p.1 ≠ n) → wsOn h ws n = h n
  | [], h, n, _ => rfl
  | (i, o) :: ws, h, n, hn => by
    simp only [wsOn]
    rw [wsOn_skip ws _ n (fun p hp => hn p (List.mem_cons_of_mem _ hp))]
    have : i ≠ n := hn (i, o) List.mem_cons_self
    simp [upd, Ne.symm this]

theorem wsOn_congr : ∀ (ws : List (Nat × Option AO)) {h h' : Nat → Option AO} {n : Nat}, h n = h' n → wsOn h ws n = wsOn h' ws n
  | [], _, _, _, e => e
  | (i, o) :: ws, h, h', n, e => by
    simp only [wsOn]
    exact wsOn_congr ws (by simp only [upd]; split <;> first | rfl | exact e)

theorem wsOn_comm {a b : List (Nat × Option AO)} {h : Nat → Option AO} (hd : ∀ p ∈ a, ∀ q ∈ b, p.1 ≠ q.1) : wsOn (wsOn h a) b = wsOn (wsOn h b) a := by
  funext n
  by_cases hb : ∃ q ∈ b, q.1 = n
  · obtain ⟨q, hq, rfl⟩ := hb
    have h1 : ∀ h0, wsOn h0 a q.1 = h0 q.1 := fun h0 => wsOn_skip a h0 q.1 (fun p hp => hd p hp q hq)
    rw [h1]
    exact wsOn_congr b (h1 h)
  · have h1 : ∀ h0, wsOn h0 b n = h0 n := fun h0 => wsOn_skip b h0 n (fun q hq e => hb ⟨q, hq, e⟩)
    rw [h1]
    exact (wsOn_congr a (h1 h)).symm

theorem putTo_ne {g : Nat → AV} {dst : Option Nat} {v : AV} {t : Nat} (h : ∀ d, dst = some d → d ≠ t) : putTo g dst v t = g t := by
  cases dst with
  | none => rfl
  | some d => simp [putTo, upd, Ne.symm (h d rfl)]

theorem putTo_comm {g : Nat → AV} {d e : Option Nat} {u v : AV} (h : ∀ k, d = some k → e ≠ some k) : putTo (putTo g d u) e v = putTo (putTo g e v) d u := by
  cases d with
  | none => rfl
  | some d => cases e with
    | none => rfl
    | some e =>
      have hne : d ≠ e := fun he => h d rfl (by rw [he])
      funext t
      simp only [putTo, upd]
      by_cases h1 : t = e
      · subst h1; simp [Ne.symm hne]
      · by_cases h2 : t = d <;> simp [h1, h2, hne]

/-- What a step leaves. -/
def St.after (s : St) (dst : Option Nat) (v : AV) (ws : List (Nat × Option AO)) (bump : Bool) : St := ⟨putTo s.slots dst v, wsOn s.heap ws, if bump then s.ep + 1 else s.ep, s.next, s.base⟩

section
variable {cl : Callee}

theorem guardA_local {g g' : Nat → AV} {gd : Option (Nat × Bool)} (h : ∀ t ∈ (match gd with | some (t, _) => [t] | none => []), g' t = g t) : guardA g' gd = guardA g gd := by
  cases gd with
  | none => rfl
  | some p =>
    obtain ⟨t, b⟩ := p
    simp only [guardA, h t (by simp)]

theorem Opd.ev_local {g g' : Nat → AV} {x : Opd} (h : ∀ t ∈ x.tmps, g' t = g t) : x.ev g' = x.ev g := by
  cases x with
  | tmp t => exact h t (by simp [Opd.tmps])
  | const v => rfl

theorem any_bsnap {g : Nat → AV} : ∀ {ys : List Opd}, (evL g ys).any bsnap = false → ∀ y ∈ ys, bsnap (y.ev g) = false
  | [], _, y, hy => by simp at hy
  | z :: ys, h, y, hy => by
    simp only [evL, List.any_cons, Bool.or_eq_false_iff] at h
    rcases List.mem_cons.1 hy with rfl | hy
    · exact h.1
    · exact any_bsnap h.2 y hy

/-- A step leaves the same wherever it finds the same. -/
theorem step_local {i : CIns} {key : Nat} {s s1 : St} {t : Tr} (h : stepLoud cl i key s = some (s1, t)) :
    ∃ v ws bump, s1 = s.after i.dst v ws bump ∧ t.wr = ws.map (·.1) ∧ t.we = bump ∧
      ∀ s' : St, (∀ k ∈ i.sees, s'.slots k = s.slots k) → (∀ id ∈ t.rd, s'.heap id = s.heap id) → (s'.ep = s.ep ∨ t.ue = false) → stepLoud cl i key s' = some (s'.after i.dst v ws bump, t) := by
  unfold stepLoud at h
  cases hg : guardA s.slots i.guard with
  | none => rw [hg] at h; cases h
  | some b =>
    rw [hg] at h
    have hgl : ∀ s' : St, (∀ k ∈ i.sees, s'.slots k = s.slots k) → guardA s'.slots i.guard = some b := fun s' hs => by
      rw [guardA_local (g := s.slots) (fun k hk => hs k (by simp only [CIns.sees]; exact List.mem_append.2 (.inr hk)))]; exact hg
    cases b with
    | false =>
      simp only [Option.some.injEq, Prod.mk.injEq] at h
      obtain ⟨rfl, rfl⟩ := h
      refine ⟨.tup [], [], false, rfl, rfl, rfl, fun s' hs _ _ => ?_⟩
      simp only [stepLoud, hgl s' hs]
      rfl
    | true =>
      simp only at h
      cases hs : sem cl i.op key s.slots s.heap s.ep with
      | none => rw [hs] at h; cases h
      | some o =>
        rw [hs] at h
        simp only [Option.some.injEq, Prod.mk.injEq] at h
        obtain ⟨rfl, rfl⟩ := h
        refine ⟨o.v, o.ws, o.bump, rfl, rfl, rfl, fun s' hsl hh he => ?_⟩
        have hopd : ∀ y ∈ i.op.opds, y.ev s'.slots = y.ev s.slots := fun y hy => Opd.ev_local (fun k hk => hsl k (by simp only [CIns.sees]; exact List.mem_append.2 (.inl (List.mem_flatMap.2 ⟨y, hy, hk⟩))))
        have he' : s'.ep = s.ep ∨ (bsnap o.v = false ∧ ∀ y ∈ i.op.opds, bsnap (y.ev s.slots) = false) := he.imp id fun h => by
          simp only [Bool.or_eq_false_iff] at h
          exact ⟨h.1, any_bsnap h.2⟩
        obtain ⟨h1, h2⟩ := sem_local (h' := s'.heap) (ep' := s'.ep) hopd hh he' hs
        simp only [stepLoud, hgl s' hsl, h1, h2, evL_local hopd]
        rfl

theorem meets_false {a b : List Nat} (h : meets a b = false) : ∀ x ∈ a, x ∉ b := by
  intro x hx hb
  have : meets a b = true := by
    simp only [meets, List.any_eq_true, List.contains_eq_mem, decide_eq_true_eq]
    exact ⟨x, hx, hb⟩
  rw [h] at this
  cases this

theorem swap {i j : CIns} {ki kj : Nat} {s s1 s2 : St} {ti tj : Tr} (hap : i.apart j = true) (h1 : stepLoud cl i ki s = some (s1, ti)) (h2 : stepLoud cl j kj s1 = some (s2, tj)) (hc : ti.clash tj = false) :
    ∃ s1', stepLoud cl j kj s = some (s1', tj) ∧ stepLoud cl i ki s1' = some (s2, ti) := by
  obtain ⟨v1, ws1, b1, rfl, e1, f1, l1⟩ := step_local h1
  obtain ⟨v2, ws2, b2, rfl, e2, f2, l2⟩ := step_local h2
  simp only [Tr.clash, Bool.or_eq_false_iff] at hc
  obtain ⟨⟨⟨⟨c1, c2⟩, c3⟩, c4⟩, c5⟩ := hc
  simp only [CIns.apart, Bool.and_eq_true] at hap
  obtain ⟨a1, a2⟩ := hap
  have d1 : ∀ d, i.dst = some d → d ∉ j.sees ∧ j.dst ≠ some d := fun d hd => by
    rw [hd] at a1
    simp only [Bool.and_eq_true, Bool.not_eq_true', List.contains_eq_mem, decide_eq_false_iff_not, bne_iff_ne, ne_eq] at a1
    exact a1
  have d2 : ∀ d, j.dst = some d → d ∉ i.sees := fun d hd => by
    rw [hd] at a2
    simpa using a2
  have hw12 : ∀ p ∈ ws1, ∀ q ∈ ws2, p.1 ≠ q.1 := fun p hp q hq e => by
    refine meets_false c2 p.1 (by rw [e1]; exact List.mem_map.2 ⟨p, hp, rfl⟩) ?_
    rw [e2, e]; exact List.mem_map.2 ⟨q, hq, rfl⟩
  have r1 := l2 s (fun k hk => by simp only [St.after]; exact (putTo_ne (fun d hd e => (d1 d hd).1 (e ▸ hk))).symm)
    (fun id hid => by
      simp only [St.after]
      refine (wsOn_skip ws1 _ id (fun p hp e => ?_)).symm
      exact meets_false c1 p.1 (by rw [e1]; exact List.mem_map.2 ⟨p, hp, rfl⟩) (e ▸ hid))
    (by
      cases b1 with
      | false => exact .inl rfl
      | true => rw [f1] at c4; simp only [Bool.true_and, Bool.or_eq_false_iff] at c4; exact .inr c4.1)
  have r2 := l1 (s.after j.dst v2 ws2 b2) (fun k hk => by simp only [St.after]; exact putTo_ne (fun d hd e => d2 d hd (e ▸ hk)))
    (fun id hid => by
      simp only [St.after]
      refine wsOn_skip ws2 _ id (fun p hp e => ?_)
      exact meets_false c3 id hid (by rw [e2, ← e]; exact List.mem_map.2 ⟨p, hp, rfl⟩))
    (by
      cases b2 with
      | false => exact .inl rfl
      | true => rw [f2] at c5; simp only [Bool.and_true] at c5; exact .inr c5)
  refine ⟨_, r1, ?_⟩
  rw [r2]
  congr 2
  simp only [St.after]
  rw [putTo_comm (fun k hk e => (d1 k e).2 hk), wsOn_comm (fun p hp q hq e => hw12 q hq p hp e.symm)]
  congr 1
  rw [f1, f2] at c4
  cases b1 <;> cases b2 <;> first | rfl | (simp at c4)

/-- A list of operations, each with its number and what it touches, one behind the other. -/
def RunR (cl : Callee) (k0 : Nat) : List (Nat × CIns × Tr) → St → St → Prop
  | [], s, s' => s = s'
  | (n, i, t) :: r, s, s' => ∃ s1, stepLoud cl i (k0 + 64 * n) s = some (s1, t) ∧ RunR cl k0 r s1 s'

theorem RunR.bubble {k0 : Nat} {p : Nat × CIns × Tr} {Y : List (Nat × CIns × Tr)} {s' : St} : ∀ {X : List (Nat × CIns × Tr)} {s : St}, RunR cl k0 (X ++ p :: Y) s s' → (∀ x ∈ X, x.2.1.apart p.2.1 = true ∧ x.2.2.clash p.2.2 = false) →
    RunR cl k0 (p :: (X ++ Y)) s s'
  | [], s, h, _ => h
  | (n, i, t) :: X, s, h, hx => by
    obtain ⟨s1, h1, h2⟩ := h
    obtain ⟨s2, h3, h4⟩ := RunR.bubble h2 (fun x hx' => hx x (List.mem_cons_of_mem _ hx'))
    obtain ⟨hap, hc⟩ := hx (n, i, t) List.mem_cons_self
    obtain ⟨s1', h5, h6⟩ := swap hap h1 h3 hc
    exact ⟨s1', h5, s2, h6, h4⟩

/-- The operations with their numbers and traces. -/
def items : Nat → List CIns → List Tr → List (Nat × CIns × Tr)
  | n, i :: is, t :: ts => (n, i, t) :: items (n + 1) is ts
  | _, _, _ => []

theorem runLoud_items {k0 : Nat} : ∀ {ops : List CIns} {n : Nat} {s s' : St} {ts : List Tr}, runLoud cl ops (k0 + 64 * n) s = some (s', ts) → ts.length = ops.length ∧ RunR cl k0 (items n ops ts) s s'
  | [], n, s, s', ts, h => by
    simp only [runLoud, Option.some.injEq, Prod.mk.injEq] at h
    obtain ⟨rfl, rfl⟩ := h
    exact ⟨rfl, rfl⟩
  | i :: is, n, s, s', ts, h => by
    simp only [runLoud] at h
    cases h1 : stepLoud cl i (k0 + 64 * n) s with
    | none => rw [h1] at h; cases h
    | some p =>
      obtain ⟨s1, t⟩ := p
      rw [h1] at h
      simp only at h
      cases h2 : runLoud cl is (k0 + 64 * n + 64) s1 with
      | none => rw [h2] at h; cases h
      | some q =>
        obtain ⟨s2, ts'⟩ := q
        rw [h2] at h
        simp only [Option.some.injEq, Prod.mk.injEq] at h
        obtain ⟨rfl, rfl⟩ := h
        have h3 := runLoud_items (k0 := k0) (n := n + 1) (ops := is) (by rw [show k0 + 64 * (n + 1) = k0 + 64 * n + 64 by omega]; exact h2)
        exact ⟨by simp [h3.1], s1, h1, h3.2⟩

theorem runQuiet_loud : ∀ {ops : List CIns} {key : Nat} {s s' : St}, runQuiet cl ops key s = some s' → ∃ ts, runLoud cl ops key s = some (s', ts) ∧ ∀ t ∈ ts, t.wr = [] ∧ t.we = false
  | [], key, s, s', h => by
    simp only [runQuiet, Option.some.injEq] at h
    subst h
    exact ⟨[], rfl, by simp⟩
  | i :: is, key, s, s', h => by
    simp only [runQuiet] at h
    cases h1 : stepQuiet cl i key s with
    | none => rw [h1] at h; cases h
    | some s1 =>
      rw [h1] at h
      obtain ⟨ts, h2, h3⟩ := runQuiet_loud h
      have h4 : ∃ t, stepLoud cl i key s = some (s1, t) ∧ t.wr = [] ∧ t.we = false := by
        unfold stepQuiet at h1
        unfold stepLoud
        cases hg : guardA s.slots i.guard with
        | none => rw [hg] at h1; cases h1
        | some b =>
          rw [hg] at h1
          cases b with
          | false =>
            simp only [Option.some.injEq] at h1
            subst h1
            exact ⟨_, rfl, rfl, rfl⟩
          | true =>
            simp only at h1 ⊢
            cases hs : sem cl i.op key s.slots s.heap s.ep with
            | none => rw [hs] at h1; cases h1
            | some o =>
              rw [hs] at h1
              obtain ⟨v, ws, b⟩ := o
              cases ws <;> cases b <;> simp only [reduceCtorEq, Option.some.injEq] at h1
              subst h1
              exact ⟨_, rfl, rfl, rfl⟩
      obtain ⟨t, h5, h6, h7⟩ := h4
      refine ⟨t :: ts, by simp only [runLoud, h5, h2], fun t' ht => ?_⟩
      rcases List.mem_cons.1 ht with rfl | ht
      · exact ⟨h6, h7⟩
      · exact h3 t' ht

theorem items_get : ∀ {ops : List CIns} {ts : List Tr} {n : Nat} {p : Nat × CIns × Tr}, p ∈ items n ops ts → ∃ j, p.1 = n + j ∧ ops[j]? = some p.2.1 ∧ ts[j]? = some p.2.2
  | [], _, n, p, h => by simp [items] at h
  | _ :: _, [], n, p, h => by simp [items] at h
  | i :: is, t :: ts, n, p, h => by
    simp only [items, List.mem_cons] at h
    rcases h with rfl | h
    · exact ⟨0, rfl, rfl, rfl⟩
    · obtain ⟨j, h1, h2, h3⟩ := items_get h
      exact ⟨j + 1, by omega, by simpa using h2, by simpa using h3⟩

theorem items_nums : ∀ {ops : List CIns} {ts : List Tr} {n : Nat}, ts.length = ops.length → (items n ops ts).map (·.1) = List.range' n ops.length
  | [], [], n, _ => rfl
  | [], _ :: _, n, h => by simp at h
  | _ :: _, [], n, h => by simp at h
  | i :: is, t :: ts, n, h => by
    simp only [items, List.map_cons, List.length_cons, List.range'_succ]
    rw [items_nums (by simpa using h)]

/-- Whether two may change places, looked up. -/
theorem clearOf_get {a : Tr} {i : Nat} : ∀ {bs : List Tr} {ds : List Nat}, clearOf a i bs ds = true → ∀ (j : Nat) (b : Tr), bs[j]? = some b → ∃ d, ds[j]? = some d ∧ (d.testBit i = true ∨ a.clash b = false)
  | [], _, _, j, b, hb => by simp at hb
  | _ :: _, [], h, j, b, hb => by cases h
  | c :: bs, d :: ds, h, j, b, hb => by
    simp only [clearOf, Bool.and_eq_true, Bool.or_eq_true, Bool.not_eq_true'] at h
    cases j with
    | zero => simp only [List.getElem?_cons_zero, Option.some.injEq] at hb; subst hb; exact ⟨d, rfl, h.1⟩
    | succ j => exact clearOf_get h.2 j b (by simpa using hb)

theorem allClear_get : ∀ {ts : List Tr} {ds : List Nat} {n : Nat}, allClear n ts ds = true → ∀ (i j : Nat) (a b : Tr), i < j → ts[i]? = some a → ts[j]? = some b → ∃ d, ds[j]? = some d ∧ (d.testBit (n + i) = true ∨ a.clash b = false)
  | [], _, n, _, i, j, a, b, _, ha, _ => by simp at ha
  | _ :: _, [], n, h, _, _, _, _, _, _, _ => by cases h
  | t :: ts, d :: ds, n, h, i, j, a, b, hij, ha, hb => by
    simp only [allClear, Bool.and_eq_true] at h
    cases j with
    | zero => omega
    | succ j =>
      cases i with
      | zero =>
        simp only [List.getElem?_cons_zero, Option.some.injEq] at ha
        subst ha
        obtain ⟨d', h1, h2⟩ := clearOf_get h.1 j b (by simpa using hb)
        exact ⟨d', by simpa using h1, by simpa using h2⟩
      | succ i =>
        obtain ⟨d', h1, h2⟩ := allClear_get h.2 i j a b (by omega) (by simpa using ha) (by simpa using hb)
        exact ⟨d', by simpa using h1, by rw [show n + (i + 1) = n + 1 + i by omega]; exact h2⟩

theorem slotsOf_get {a : CIns} {i : Nat} : ∀ {bs : List CIns} {ds : List Nat}, slotsOf a i bs ds = true → ∀ (j : Nat) (b : CIns), bs[j]? = some b → ∃ d, ds[j]? = some d ∧ (d.testBit i = true ∨ a.apart b = true)
  | [], _, _, j, b, hb => by simp at hb
  | _ :: _, [], h, j, b, hb => by cases h
  | c :: bs, d :: ds, h, j, b, hb => by
    simp only [slotsOf, Bool.and_eq_true, Bool.or_eq_true] at h
    cases j with
    | zero => simp only [List.getElem?_cons_zero, Option.some.injEq] at hb; subst hb; exact ⟨d, rfl, h.1⟩
    | succ j => exact slotsOf_get h.2 j b (by simpa using hb)

theorem slotsClear_get : ∀ {ts : List CIns} {ds : List Nat} {n : Nat}, slotsClear n ts ds = true → ∀ (i j : Nat) (a b : CIns), i < j → ts[i]? = some a → ts[j]? = some b → ∃ d, ds[j]? = some d ∧ (d.testBit (n + i) = true ∨ a.apart b = true)
  | [], _, n, _, i, j, a, b, _, ha, _ => by simp at ha
  | _ :: _, [], n, h, _, _, _, _, _, _, _ => by cases h
  | t :: ts, d :: ds, n, h, i, j, a, b, hij, ha, hb => by
    simp only [slotsClear, Bool.and_eq_true] at h
    cases j with
    | zero => omega
    | succ j =>
      cases i with
      | zero =>
        simp only [List.getElem?_cons_zero, Option.some.injEq] at ha
        subst ha
        obtain ⟨d', h1, h2⟩ := slotsOf_get h.1 j b (by simpa using hb)
        exact ⟨d', by simpa using h1, by simpa using h2⟩
      | succ i =>
        obtain ⟨d', h1, h2⟩ := slotsClear_get h.2 i j a b (by omega) (by simpa using ha) (by simpa using hb)
        exact ⟨d', by simpa using h1, by rw [show n + (i + 1) = n + 1 + i by omega]; exact h2⟩

/-- Every two of these are bound, or may change places. -/
def Free (deps : List Nat) (l : List (Nat × CIns × Tr)) : Prop := ∀ x ∈ l, ∀ p ∈ l, x.1 < p.1 → ∃ d, deps[p.1]? = some d ∧ (d.testBit x.1 = true ∨ (x.2.1.apart p.2.1 = true ∧ x.2.2.clash p.2.2 = false))

theorem free_items {ops : List CIns} {ts : List Tr} {deps : List Nat} (hc : allClear 0 ts deps = true) (hs : slotsClear 0 ops deps = true) : Free deps (items 0 ops ts) := by
  intro x hx p hp hlt
  obtain ⟨i, hi, hx1, hx2⟩ := items_get hx
  obtain ⟨j, hj, hp1, hp2⟩ := items_get hp
  rw [Nat.zero_add] at hi hj
  obtain ⟨d, h1, h2⟩ := allClear_get hc i j _ _ (by omega) hx2 hp2
  obtain ⟨d', h3, h4⟩ := slotsClear_get hs i j _ _ (by omega) hx1 hp1
  rw [h1] at h3
  obtain rfl := Option.some.inj h3
  rw [Nat.zero_add] at h2 h4
  rw [hi, hj]
  refine ⟨d, h1, ?_⟩
  cases h : d.testBit i
  · right
    rw [h] at h2 h4
    exact ⟨by simpa using h4, by simpa using h2⟩
  · exact .inl rfl

theorem free_quiet {ops : List CIns} {ts : List Tr} {deps : List Nat} (hq : ∀ t ∈ ts, t.wr = [] ∧ t.we = false) (hs : slotsClear 0 ops deps = true) : Free deps (items 0 ops ts) := by
  intro x hx p hp hlt
  obtain ⟨i, hi, hx1, hx2⟩ := items_get hx
  obtain ⟨j, hj, hp1, hp2⟩ := items_get hp
  rw [Nat.zero_add] at hi hj
  obtain ⟨d', h3, h4⟩ := slotsClear_get hs i j _ _ (by omega) hx1 hp1
  rw [Nat.zero_add] at h4
  rw [hi, hj]
  refine ⟨d', h3, h4.imp id fun h => ⟨h, ?_⟩⟩
  obtain ⟨q1, q2⟩ := hq _ (List.mem_of_getElem? hx2)
  obtain ⟨q3, q4⟩ := hq _ (List.mem_of_getElem? hp2)
  simp [Tr.clash, q1, q2, q3, q4, meets]
end
end Go.Proofs.Ytfebkfeobdffjaa
