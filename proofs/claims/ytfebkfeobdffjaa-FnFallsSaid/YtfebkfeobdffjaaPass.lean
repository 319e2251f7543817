/- A call's arguments: what is lent, what is given away. -/
import Derived.Test.YtfebkfeobdffjaaBack
namespace Go.Proofs.Ytfebkfeobdffjaa
open Go Go.RowKit
set_option linter.unusedSimpArgs false

/-- The blocks of what is given away; those of its arrays. -/
def GivenB (h : Nat → Option AO) (g : Gh) (ids : List Nat) (b : Nat) : Prop := ∃ id o, id ∈ ids ∧ h id = some o ∧ g.fp id b
def GivenN (h : Nat → Option AO) (g : Gh) (ids : List Nat) (b : Nat) : Prop := g.I b ∨ ∃ id sz xs, id ∈ ids ∧ h id = some (.arr sz xs) ∧ g.fp id b

def calleeCx (cx : Cx) (h : Nat → Option AO) (g : Gh) (w : World) (ids : List Nat) (objs : List AO) : Cx :=
  ⟨cx.P, cx.num, fun b => b < w.heap.size ∧ ¬ GivenB h g ids b, GivenB h g ids, g.I, GivenN h g ids, w, ids.length, startHeap objs 0, fun k => g.v (ids.getD k 0)⟩

def calleeGh (h : Nat → Option AO) (g : Gh) (ids : List Nat) : Gh := ⟨fun k => g.v (ids.getD k 0), fun k => g.fp (ids.getD k 0), g.I, GivenN h g ids, fun k => k < ids.length⟩

theorem startHeap_get : ∀ (os : List AO) (i k : Nat), startHeap os i k = if i ≤ k then os[k - i]? else none
  | [], i, k => by simp [startHeap]
  | o :: os, i, k => by
    simp only [startHeap, upd]
    by_cases h : k = i
    · subst h; simp
    · rw [if_neg h, startHeap_get os (i + 1) k]
      by_cases h2 : i ≤ k
      · rw [if_pos (by omega), if_pos h2, show k - i = (k - (i + 1)) + 1 by omega]; simp
      · rw [if_neg (by omega), if_neg h2]

theorem startSlots_get : ∀ (vs : List AV) (i k : Nat), startSlots vs i k = if i ≤ k then vs.getD (k - i) .any else .any
  | [], i, k => by simp [startSlots]
  | o :: os, i, k => by
    simp only [startSlots, upd]
    by_cases h : k = i
    · subst h; simp
    · rw [if_neg h, startSlots_get os (i + 1) k]
      by_cases h2 : i ≤ k
      · rw [if_pos (by omega), if_pos h2, show k - i = (k - (i + 1)) + 1 by omega]; simp
      · rw [if_neg (by omega), if_neg h2]

section
variable {cx : Cx} {h : Nat → Option AO} {ep : Nat} {g : Gh} {w : World}

/-- Where a slice that may be read lies. -/
def LookB (cx : Cx) (h : Nat → Option AO) (g : Gh) (x : AV) (b : Nat) : Prop := g.I b ∨ cx.R b ∨ (x.snaps1 = true ∧ g.N b) ∨ ∃ id o, id ∈ x.id? ∧ h id = some o ∧ g.fp id b

theorem content_bor (m : Mem cx h ep g w) {v : Value} {x : AV} {sz : Nat} {xs : List (List AV)} {md : Md} (hr : SRel cx.num w cx.R g h ep v x) (hc : content h ep x = some (sz, xs)) : Bor w (LookB cx h g x) v (.sl md sz xs) := by
  cases x <;> simp only [content, reduceCtorEq] at hc
  · rename_i md' sz' ys
    cases hr with
    | nil => simp only [Option.some.injEq, Prod.mk.injEq] at hc; obtain ⟨_, rfl⟩ := hc; exact .nil _ _ _ _
    | sl _ _ _ _ _ hm hlim hown =>
      have h' : md'.ok ep = true ∧ sz' = sz ∧ ys = xs := by
        cases md' <;> cases ys <;> simp_all [Md.ok] <;> (split at hc <;> simp_all)
      obtain ⟨hok, rfl, rfl⟩ := h'
      refine ((hm hok).mono (Same.refl _ _) (fun b hb => ?_)).md
      cases md' with
      | own => exact absurd rfl hown
      | imm => exact .inl hb
      | bor => exact .inr (.inl hb)
      | snap e => exact .inr (.inr (.inl ⟨rfl, hb⟩))
  · rename_i id
    cases hh : h id with
    | none => rw [hh] at hc; cases hc
    | some ob =>
      rw [hh] at hc
      cases ob <;> simp only [reduceCtorEq, Option.some.injEq, Prod.mk.injEq] at hc
      obtain ⟨rfl, rfl⟩ := hc
      cases hr with
      | ref _ _ _ hu hv =>
        rw [hv _ hh]
        exact ((m.objs id _ hh).1.bor (fun b hb => .inr (.inr (.inr ⟨id, _, by simp [AV.id?], hh, hb⟩))) (fun b hb => .inl hb)).md
  · rename_i id lo len
    cases hh : h id with
    | none => rw [hh] at hc; cases hc
    | some ob =>
      rw [hh] at hc
      cases ob <;> simp only [reduceCtorEq] at hc
      rename_i sz0 xs0
      split at hc
      case isFalse => cases hc
      rename_i hle
      simp only [Option.some.injEq, Prod.mk.injEq] at hc
      obtain ⟨rfl, rfl⟩ := hc
      have hlen : (List.take len (List.drop lo xs0)).length = len := by simp; omega
      cases hr with
      | view _ _ _ _ _ hu hv =>
        obtain ⟨a', cap, h5, h6, h7⟩ := hv _ _ hh
        by_cases hz : len = 0
        · subst hz
          rw [h5]
          simp only [List.take_zero]
          exact .nil _ _ _ _
        · obtain ⟨b, n', c', h8, h9⟩ := h7 hz
          rcases (m.objs id _ hh).1.rows with ⟨_, h6, _⟩ | ⟨b', cap', cur, e', us, fs, h5', hheap, _, _, _, hcell, hrows, _, hS⟩
          · subst h6; simp at hle; omega
          · rw [h8] at h5'
            simp only [Value.slice.injEq, Option.some.injEq, Addr.mk.injEq, and_true] at h5'
            obtain ⟨rfl, _⟩ := h5'
            have hat : ∀ i j c, cellAt (List.take len (List.drop lo xs0)) i j = some c → cellAt xs0 (lo + i) j = some c := by
              intro i j c hc
              obtain ⟨row, hr1, hr2⟩ := cellAt_some.1 hc
              refine cellAt_some.2 ⟨row, ?_, hr2⟩
              rw [List.getElem?_take] at hr1
              split at hr1
              · rwa [List.getElem?_drop] at hr1
              · cases hr1
            have hin : ∀ b1, g.fp id b1 → LookB cx h g (.view id lo len) b1 := fun b1 hb1 => .inr (.inr (.inr ⟨id, _, by simp [AV.id?], hh, hb1⟩))
            rw [h5, h9, ← hlen]
            rw [hlen]
            have := Bor.sl (w := w) (R := LookB cx h g (.view id lo len)) md sz0 (List.take len (List.drop lo xs0)) b (lo * sz0) cap (fun i j => us (lo + i) j) (by rw [hlen]; exact h6) (hin _ ((hS _).2 (.inl rfl)))
              (fun row hr => hrows.row row (List.mem_of_mem_drop (List.mem_of_mem_take hr)))
              (fun i j c hc => by rw [cell_of_heap hheap, show lo * sz0 + i * sz0 + j = (lo + i) * sz0 + j by rw [Nat.add_mul]]; exact hcell _ _ _ (hat i j c hc))
              (fun i j c hc => (hrows.cl _ _ _ (hat i j c hc)).bor (fun x hx => hin x ((hS x).2 (.inr ⟨_, _, _, hat i j c hc, hx⟩))) (fun x hx => .inl hx))
            rw [hlen] at this
            exact this

/-- What looks elsewhere than at what is given away is outside it. -/
theorem look_out (m : Mem cx h ep g w) {ids : List Nat} {x : AV} (hids : ∀ i ∈ x.id?, i ∉ ids) (hsn : ids = [] ∨ x.snaps1 = false) {b : Nat} (hb : LookB cx h g x b) : b < w.heap.size ∧ ¬ GivenB h g ids b := by
  rcases hb with hb | hb | ⟨h1, hb⟩ | ⟨id, o, h1, h2, hb⟩
  · exact ⟨m.I_lt b hb, fun ⟨id, o, _, h2, h3⟩ => (m.mine id o b h2 h3).2 hb⟩
  · obtain ⟨h3, h4⟩ := m.R_old b hb
    refine ⟨Nat.lt_of_lt_of_le h3 m.frame.size, fun ⟨id, o, _, h2, h5⟩ => ?_⟩
    rcases (m.mine id o b h2 h5).1 with h6 | h6
    · exact h4 h6
    · omega
  · rcases hsn with rfl | hsn
    · exact ⟨m.N_lt b hb, fun ⟨id, o, h3, _⟩ => by simp at h3⟩
    · rw [hsn] at h1; cases h1
  · exact ⟨(m.objs id o h2).lt b hb, fun ⟨id', o', h3, h4, h5⟩ => hids id h1 (m.disj id id' o o' b h2 h4 hb h5 ▸ h3)⟩

/-- A value of the caller's, as the callee sees it. -/
def Seen (cx : Cx) (h : Nat → Option AO) (ep : Nat) (g : Gh) (w : World) (ids : List Nat) (objs : List AO) (v d : AV) : Prop :=
  ∀ u, SRel cx.num w cx.R g h ep u v → SRel cx.num w (calleeCx cx h g w ids objs).R (calleeGh h g ids) (startHeap objs 0) 0 u d

theorem lend1_seen (m : Mem cx h ep g w) {ids : List Nat} {objs : List AO} {v d : AV} (hl : lend1 h ep v = some d) (hids : ∀ i ∈ v.id?, i ∉ ids) (hsn : ids = [] ∨ v.snaps1 = false) : Seen cx h ep g w ids objs v d := by
  intro u hr
  have other : ∀ sz xs, content h ep v = some (sz, xs) → u.oneCell' = true → SRel cx.num w (calleeCx cx h g w ids objs).R (calleeGh h g ids) (startHeap objs 0) 0 u (.sl .bor sz xs) := fun sz xs hc h1 =>
    .sl _ _ _ _ h1 (fun _ => (content_bor m hr hc).mono (Same.refl _ _) (fun b hb => look_out m hids hsn hb)) (fun e he => by cases he) (by simp)
  cases v <;> simp only [lend1, reduceCtorEq, Option.some.injEq] at hl
  · exact absurd hl (by simp [content])
  · subst hl; cases hr; exact .bool _
  · subst hl; cases hr; exact .int _ _
  · subst hl; cases hr; exact .str _
  · rename_i md sz xs
    have h1 := hr.one (by simp [AV.parts])
    cases md with
    | imm =>
      simp only [Option.some.injEq] at hl
      subst hl
      cases hr with
      | sl _ _ _ _ h1 hm _ _ => exact .sl _ _ _ _ h1 (fun _ => hm rfl) (fun e he => by cases he) (by simp)
    | own =>
      simp only at hl
      cases hc : content h ep (.sl .own sz xs) with
      | none => rw [hc] at hl; cases hl
      | some p => rw [hc] at hl; simp only [Option.some.injEq] at hl; subst hl; exact other _ _ hc h1
    | bor =>
      simp only at hl
      cases hc : content h ep (.sl .bor sz xs) with
      | none => rw [hc] at hl; cases hl
      | some p => rw [hc] at hl; simp only [Option.some.injEq] at hl; subst hl; exact other _ _ hc h1
    | snap e =>
      simp only at hl
      cases hc : content h ep (.sl (.snap e) sz xs) with
      | none => rw [hc] at hl; cases hl
      | some p => rw [hc] at hl; simp only [Option.some.injEq] at hl; subst hl; exact other _ _ hc h1
  · rename_i id
    have h1 := hr.one (by simp [AV.parts])
    cases hc : content h ep (.ref id) with
    | none => rw [hc] at hl; cases hl
    | some p => rw [hc] at hl; simp only [Option.some.injEq] at hl; subst hl; exact other _ _ hc h1
  · rename_i id lo len
    have h1 := hr.one (by simp [AV.parts])
    cases hc : content h ep (.view id lo len) with
    | none => rw [hc] at hl; cases hl
    | some p => rw [hc] at hl; simp only [Option.some.injEq] at hl; subst hl; exact other _ _ hc h1
  all_goals first | exact absurd hl (by simp [content]) | (subst hl; cases hr; exact .fn _ _ ‹_›)

theorem lendL_seen (m : Mem cx h ep g w) {ids : List Nat} {objs : List AO} : ∀ {cs ds : List AV}, lendL h ep cs = some ds → (∀ i ∈ cs.flatMap AV.id?, i ∉ ids) → (ids = [] ∨ cs.any AV.snaps1 = false) →
    ds.length = cs.length ∧ ∀ (i : Nat) (c d : AV), cs[i]? = some c → ds[i]? = some d → Seen cx h ep g w ids objs c d
  | [], ds, hl, _, _ => by
    simp only [lendL, Option.some.injEq] at hl
    subst hl
    exact ⟨rfl, fun i c d hc => by simp at hc⟩
  | c :: cs, ds, hl, hids, hsn => by
    simp only [lendL] at hl
    cases h1 : lend1 h ep c with
    | none => rw [h1] at hl; cases hl
    | some d =>
      rw [h1] at hl
      cases h2 : lendL h ep cs with
      | none => rw [h2] at hl; cases hl
      | some ds' =>
        rw [h2] at hl
        simp only [Option.some.injEq] at hl
        subst hl
        have hsn1 : ids = [] ∨ c.snaps1 = false := hsn.imp id fun h => by simp [List.any_cons] at h; exact h.1
        have hsn2 : ids = [] ∨ cs.any AV.snaps1 = false := hsn.imp id fun h => by simp only [List.any_cons, Bool.or_eq_false_iff] at h; exact h.2
        obtain ⟨h3, h4⟩ := lendL_seen m h2 (fun i hi => hids i (by rw [List.flatMap_cons]; exact List.mem_append.2 (.inr hi))) hsn2
        refine ⟨by simp [h3], fun i c' d' hc hd => ?_⟩
        cases i with
        | zero =>
          simp only [List.getElem?_cons_zero, Option.some.injEq] at hc hd
          subst hc; subst hd
          exact lend1_seen m h1 (fun i hi => hids i (by rw [List.flatMap_cons]; exact List.mem_append.2 (.inl hi))) hsn1
        | succ i => exact h4 i c' d' (by simpa using hc) (by simpa using hd)

theorem lendV_seen (m : Mem cx h ep g w) {ids : List Nat} {objs : List AO} {v d : AV} (hl : lendV h ep v = some d) (hids : ∀ i ∈ v.ids, i ∉ ids) (hsn : ids = [] ∨ v.snaps = false) : Seen cx h ep g w ids objs v d := by
  by_cases hv : ∃ cs, v = .agg cs
  · obtain ⟨cs, rfl⟩ := hv
    simp only [lendV] at hl
    cases h2 : lendL h ep cs with
    | none => rw [h2] at hl; cases hl
    | some ds =>
      rw [h2] at hl
      simp only [Option.some.injEq] at hl
      subst hl
      obtain ⟨h3, h4⟩ := lendL_seen (objs := objs) m h2 hids hsn
      intro u hr
      cases hr with
      | agg us _ hl' h1 hc =>
        refine .agg us _ (by omega) h1 (fun i u d hu hd => ?_)
        have hi := (List.getElem?_eq_some_iff.1 hd).1
        have hci : cs[i]? = some (cs[i]'(by omega)) := List.getElem?_eq_getElem (by omega)
        exact h4 i _ d hci hd u (hc i u _ hu hci)
  · have e1 : lendV h ep v = lend1 h ep v := by cases v <;> first | rfl | exact absurd ⟨_, rfl⟩ hv
    have e2 : v.ids = v.id? := by cases v <;> first | rfl | exact absurd ⟨_, rfl⟩ hv
    have e3 : v.snaps = v.snaps1 := by cases v <;> first | rfl | exact absurd ⟨_, rfl⟩ hv
    rw [e1] at hl
    rw [e2] at hids
    rw [e3] at hsn
    exact lend1_seen m hl hids hsn

/-! ### What is given away -/
/-- The numbers from n on. -/
def SubAt (ids : List Nat) (n : Nat) (is : List Nat) : Prop := ∀ (j i : Nat), is[j]? = some i → ids[n + j]? = some i

theorem SubAt.left {ids : List Nat} {n : Nat} {is js : List Nat} (h : SubAt ids n (is ++ js)) : SubAt ids n is := fun j i hj => h j i (by rw [List.getElem?_append_left (List.getElem?_eq_some_iff.1 hj).1]; exact hj)
theorem SubAt.right {ids : List Nat} {n : Nat} {is js : List Nat} (h : SubAt ids n (is ++ js)) : SubAt ids (n + is.length) js := fun j i hj => by
  have := h (is.length + j) i (by rw [List.getElem?_append_right (by omega), Nat.add_sub_cancel_left]; exact hj)
  rwa [← Nat.add_assoc] at this

/-- The object that the callee gets for number i. -/
def GObj (h : Nat → Option AO) (seen : AV → AV → Prop) (i : Nat) (o' : AO) : Prop :=
  (∃ sz xs, o' = .arr sz xs ∧ h i = some (.arr sz xs)) ∨ ∃ cs ds, o' = .box ds ∧ h i = some (.box cs) ∧ ds.length = cs.length ∧ ∀ (j : Nat) (c d : AV), cs[j]? = some c → ds[j]? = some d → seen c d

theorem seen_ref {ids : List Nat} {objs : List AO} {n i : Nat} (hn : ids[n]? = some i) {o : AO} (ho : h i = some o) : Seen cx h ep g w ids objs (.ref i) (.ref n) := by
  intro u hr
  cases hr with
  | ref _ _ h1 hu hv =>
    have hlt := (List.getElem?_eq_some_iff.1 hn).1
    refine .ref _ _ h1 hlt (fun _ _ => ?_)
    rw [hv o ho]
    simp [calleeGh, List.getD, hn]

theorem give1_seen {ids : List Nat} {objs : List AO} {n : Nat} {v d : AV} {is : List Nat} {os : List AO} (hg : give1 h n v = some (d, is, os)) (hsub : SubAt ids n is) :
    is.length = os.length ∧ (∀ (k i : Nat) (o' : AO), is[k]? = some i → os[k]? = some o' → ∃ sz xs, o' = .arr sz xs ∧ h i = some (.arr sz xs)) ∧ Seen cx h ep g w ids objs v d := by
  cases v <;> simp only [give1, reduceCtorEq, Option.some.injEq, Prod.mk.injEq] at hg
  · obtain ⟨rfl, rfl, rfl⟩ := hg
    exact ⟨rfl, fun k i o' hk => by simp at hk, fun u hr => by cases hr; exact .bool _⟩
  · obtain ⟨rfl, rfl, rfl⟩ := hg
    exact ⟨rfl, fun k i o' hk => by simp at hk, fun u hr => by cases hr; exact .int _ _⟩
  · obtain ⟨rfl, rfl, rfl⟩ := hg
    exact ⟨rfl, fun k i o' hk => by simp at hk, fun u hr => by cases hr; exact .str _⟩
  · rename_i md sz xs
    cases md with
    | own => cases xs with
      | nil =>
        simp only [Option.some.injEq, Prod.mk.injEq] at hg
        obtain ⟨rfl, rfl, rfl⟩ := hg
        refine ⟨rfl, fun k i o' hk => by simp at hk, fun u hr => ?_⟩
        cases hr with
        | nil => exact .nil _
        | sl _ _ _ _ _ _ _ hown => exact absurd rfl hown
      | cons _ _ => simp at hg
    | imm =>
      have hb : d = .sl .imm sz xs ∧ is = [] ∧ os = [] := by cases xs <;> simp_all
      obtain ⟨rfl, rfl, rfl⟩ := hb
      refine ⟨rfl, fun k i o' hk => by simp at hk, fun u hr => ?_⟩
      cases hr with
      | sl _ _ _ _ h1 hm _ _ => exact .sl _ _ _ _ h1 (fun _ => hm rfl) (fun e he => by cases he) (by simp)
    | bor => cases xs <;> simp at hg
    | snap e => cases xs <;> simp at hg
  · rename_i id
    cases hh : h id with
    | none => rw [hh] at hg; cases hg
    | some ob =>
      rw [hh] at hg
      cases ob <;> simp only [reduceCtorEq, Option.some.injEq, Prod.mk.injEq] at hg
      obtain ⟨rfl, rfl, rfl⟩ := hg
      refine ⟨rfl, fun k i o' hk ho => ?_, seen_ref (by simpa using hsub 0 id rfl) hh⟩
      cases k with
      | zero => simp at hk ho; subst hk; subst ho; exact ⟨_, _, rfl, hh⟩
      | succ k => simp at hk

theorem giveL_seen {ids : List Nat} {objs : List AO} : ∀ {n : Nat} {cs ds : List AV} {is : List Nat} {os : List AO}, giveL h n cs = some (ds, is, os) → SubAt ids n is →
    is.length = os.length ∧ ds.length = cs.length ∧ (∀ (k i : Nat) (o' : AO), is[k]? = some i → os[k]? = some o' → ∃ sz xs, o' = .arr sz xs ∧ h i = some (.arr sz xs)) ∧
      ∀ (j : Nat) (c d : AV), cs[j]? = some c → ds[j]? = some d → Seen cx h ep g w ids objs c d
  | n, [], ds, is, os, hg, _ => by
    simp only [giveL, Option.some.injEq, Prod.mk.injEq] at hg
    obtain ⟨rfl, rfl, rfl⟩ := hg
    exact ⟨rfl, rfl, fun k i o' hk => by simp at hk, fun j c d hc => by simp at hc⟩
  | n, c :: cs, ds, is, os, hg, hsub => by
    simp only [giveL] at hg
    cases h1 : give1 h n c with
    | none => rw [h1] at hg; cases hg
    | some p =>
      obtain ⟨d, i1, o1⟩ := p
      rw [h1] at hg
      simp only at hg
      cases h2 : giveL h (n + i1.length) cs with
      | none => rw [h2] at hg; cases hg
      | some q =>
        obtain ⟨ds', i2, o2⟩ := q
        rw [h2] at hg
        simp only [Option.some.injEq, Prod.mk.injEq] at hg
        obtain ⟨rfl, rfl, rfl⟩ := hg
        obtain ⟨l1, a1, s1⟩ := give1_seen (cx := cx) (ep := ep) (g := g) (w := w) (objs := objs) h1 hsub.left
        obtain ⟨l2, l3, a2, s2⟩ := giveL_seen (objs := objs) h2 hsub.right
        refine ⟨by simp [l1, l2], by simp [l3], fun k i o' hk ho => ?_, fun j c' d' hc hd => ?_⟩
        · by_cases hlt : k < i1.length
          · rw [List.getElem?_append_left hlt] at hk
            rw [List.getElem?_append_left (by omega)] at ho
            exact a1 k i o' hk ho
          · rw [List.getElem?_append_right (by omega)] at hk ho
            rw [← l1] at ho
            exact a2 _ i o' hk ho
        · cases j with
          | zero =>
            simp only [List.getElem?_cons_zero, Option.some.injEq] at hc hd
            subst hc; subst hd
            exact s1
          | succ j => exact s2 j c' d' (by simpa using hc) (by simpa using hd)

theorem giveV_seen {ids : List Nat} {objs : List AO} {n : Nat} {v d : AV} {is : List Nat} {os : List AO} (hg : giveV h n v = some (d, is, os)) (hsub : SubAt ids n is) (hobjs : ∀ (k : Nat) (o' : AO), os[k]? = some o' → objs[n + k]? = some o') :
    is.length = os.length ∧ (∀ (k i : Nat) (o' : AO), is[k]? = some i → os[k]? = some o' → GObj h (Seen cx h ep g w ids objs) i o') ∧ Seen cx h ep g w ids objs v d := by
  by_cases hv : ∃ cs, v = .agg cs
  · obtain ⟨cs, rfl⟩ := hv
    simp only [giveV] at hg
    cases h2 : giveL h n cs with
    | none => rw [h2] at hg; cases hg
    | some q =>
      obtain ⟨ds, i2, o2⟩ := q
      rw [h2] at hg
      simp only [Option.some.injEq, Prod.mk.injEq] at hg
      obtain ⟨rfl, rfl, rfl⟩ := hg
      obtain ⟨l2, l3, a2, s2⟩ := giveL_seen (cx := cx) (ep := ep) (g := g) (w := w) (objs := objs) h2 hsub
      refine ⟨l2, fun k i o' hk ho => .inl (a2 k i o' hk ho), fun u hr => ?_⟩
      cases hr with
      | agg us _ hl' h1 hc =>
        refine .agg us _ (by omega) h1 (fun i u d hu hd => ?_)
        have hi := (List.getElem?_eq_some_iff.1 hd).1
        have hci : cs[i]? = some (cs[i]'(by omega)) := List.getElem?_eq_getElem (by omega)
        exact s2 i _ d hci hd u (hc i u _ hu hci)
  · by_cases hp : ∃ id, v = .ptr id 0 0
    · obtain ⟨id, rfl⟩ := hp
      simp only [giveV] at hg
      cases hh : h id with
      | none => rw [hh] at hg; cases hg
      | some ob =>
        rw [hh] at hg
        cases ob <;> simp only [reduceCtorEq] at hg
        rename_i cells
        cases h2 : giveL h (n + 1) cells with
        | none => rw [h2] at hg; cases hg
        | some q =>
          obtain ⟨ds, i2, o2⟩ := q
          rw [h2] at hg
          simp only [Option.some.injEq, Prod.mk.injEq] at hg
          obtain ⟨rfl, rfl, rfl⟩ := hg
          have hsub2 : SubAt ids (n + 1) i2 := fun j i hj => by
            have := hsub (j + 1) i (by simpa using hj)
            rwa [← Nat.add_assoc, Nat.add_right_comm] at this
          obtain ⟨l2, l3, a2, s2⟩ := giveL_seen (cx := cx) (ep := ep) (g := g) (w := w) (objs := objs) h2 hsub2
          refine ⟨by simp [l2], fun k i o' hk ho => ?_, fun u hr => ?_⟩
          · cases k with
            | zero =>
              simp only [List.getElem?_cons_zero, Option.some.injEq] at hk ho
              subst hk; subst ho
              exact .inr ⟨cells, ds, rfl, hh, l3, s2⟩
            | succ k => exact .inl (a2 k i o' (by simpa using hk) (by simpa using ho))
          · cases hr with
            | ptr _ _ _ _ h1 hu hv' =>
              have hn : ids[n]? = some id := by simpa using hsub 0 id rfl
              have hlt := (List.getElem?_eq_some_iff.1 hn).1
              refine .ptr _ _ _ _ h1 hlt (fun o ho => ?_)
              rw [startHeap_get, if_pos (Nat.zero_le _), Nat.sub_zero, show objs[n]? = some (.box ds) from hobjs 0 _ rfl] at ho
              obtain rfl := Option.some.inj ho
              obtain ⟨b, h5, h6⟩ := hv' _ hh
              exact ⟨b, by simpa [calleeGh, List.getD, hn] using h5, h6⟩
    · have e1 : giveV h n v = give1 h n v := by
        cases v <;> first | rfl | exact absurd ⟨_, rfl⟩ hv | skip
        rename_i id i off
        cases i <;> cases off <;> first | rfl | exact absurd ⟨_, rfl⟩ hp
      rw [e1] at hg
      obtain ⟨l1, a1, s1⟩ := give1_seen (cx := cx) (ep := ep) (g := g) (w := w) (objs := objs) hg hsub
      exact ⟨l1, fun k i o' hk ho => .inl (a1 k i o' hk ho), s1⟩

theorem passArgs_seen (m : Mem cx h ep g w) {ids : List Nat} {objs : List AO} : ∀ {n : Nat} {ms : List Bool} {vs : List AV} {G : Given}, passArgs h ep n ms vs = some G → SubAt ids n G.ids → (∀ (k : Nat) (o' : AO), G.objs[k]? = some o' → objs[n + k]? = some o') →
    (∀ i ∈ G.looks, i ∉ ids) → (ids = [] ∨ G.snaps = false) →
    G.ids.length = G.objs.length ∧ G.args.length = vs.length ∧ (∀ (k i : Nat) (o' : AO), G.ids[k]? = some i → G.objs[k]? = some o' → GObj h (Seen cx h ep g w ids objs) i o') ∧
      ∀ (j : Nat) (v d : AV), vs[j]? = some v → G.args[j]? = some d → Seen cx h ep g w ids objs v d
  | n, [], [], G, hp, _, _, _, _ => by
    simp only [passArgs, Option.some.injEq] at hp
    subst hp
    exact ⟨rfl, rfl, fun k i o' hk => by simp at hk, fun j v d hv => by simp at hv⟩
  | n, [], _ :: _, G, hp, _, _, _, _ => by simp [passArgs] at hp
  | n, b :: ms, [], G, hp, _, _, _, _ => by cases b <;> simp [passArgs] at hp
  | n, true :: ms, v :: vs, G, hp, hsub, hobjs, hlk, hsn => by
    simp only [passArgs] at hp
    cases h1 : giveV h n v with
    | none => rw [h1] at hp; cases hp
    | some p =>
      obtain ⟨d, is, os⟩ := p
      rw [h1] at hp
      simp only at hp
      cases h2 : passArgs h ep (n + is.length) ms vs with
      | none => rw [h2] at hp; cases hp
      | some G' =>
        rw [h2] at hp
        simp only [Option.some.injEq] at hp
        subst hp
        simp only at hsub hobjs hlk hsn ⊢
        obtain ⟨l1, a1, s1⟩ := giveV_seen (cx := cx) (ep := ep) (g := g) (w := w) (objs := objs) h1 hsub.left (fun k o' hk => hobjs k o' (by rw [List.getElem?_append_left (List.getElem?_eq_some_iff.1 hk).1]; exact hk))
        obtain ⟨l2, l3, a2, s2⟩ := passArgs_seen (objs := objs) m h2 hsub.right (fun k o' hk => by
          have := hobjs (os.length + k) o' (by rw [List.getElem?_append_right (by omega), Nat.add_sub_cancel_left]; exact hk)
          rw [l1, Nat.add_assoc]; exact this) hlk hsn
        refine ⟨by simp [l1, l2], by simp [l3], fun k i o' hk ho => ?_, fun j v' d' hv hd => ?_⟩
        · by_cases hlt : k < is.length
          · rw [List.getElem?_append_left hlt] at hk
            rw [List.getElem?_append_left (by omega)] at ho
            exact a1 k i o' hk ho
          · rw [List.getElem?_append_right (by omega)] at hk ho
            rw [← l1] at ho
            exact a2 _ i o' hk ho
        · cases j with
          | zero =>
            simp only [List.getElem?_cons_zero, Option.some.injEq] at hv hd
            subst hv; subst hd
            exact s1
          | succ j => exact s2 j v' d' (by simpa using hv) (by simpa using hd)
  | n, false :: ms, v :: vs, G, hp, hsub, hobjs, hlk, hsn => by
    simp only [passArgs] at hp
    cases h1 : lendV h ep v with
    | none => rw [h1] at hp; cases hp
    | some d =>
      rw [h1] at hp
      simp only at hp
      cases h2 : passArgs h ep n ms vs with
      | none => rw [h2] at hp; cases hp
      | some G' =>
        rw [h2] at hp
        simp only [Option.some.injEq] at hp
        subst hp
        simp only at hsub hobjs hlk hsn ⊢
        have s1 := lendV_seen (objs := objs) m h1 (fun i hi => hlk i (List.mem_append.2 (.inl hi))) (hsn.imp id fun h => by simp only [Bool.or_eq_false_iff] at h; exact h.1)
        obtain ⟨l2, l3, a2, s2⟩ := passArgs_seen (objs := objs) m h2 hsub hobjs (fun i hi => hlk i (List.mem_append.2 (.inr hi))) (hsn.imp id fun h => by simp only [Bool.or_eq_false_iff] at h; exact h.2)
        refine ⟨l2, by simp [l3], a2, fun j v' d' hv hd => ?_⟩
        cases j with
        | zero =>
          simp only [List.getElem?_cons_zero, Option.some.injEq] at hv hd
          subst hv; subst hd
          exact s1
        | succ j => exact s2 j v' d' (by simpa using hv) (by simpa using hd)

/-- The callee's memory at its start. -/
theorem callee_mem (m : Mem cx h ep g w) {ids : List Nat} {objs : List AO} (hlen : ids.length = objs.length) (hnd : ids.Nodup) (hobj : ∀ (k i : Nat) (o' : AO), ids[k]? = some i → objs[k]? = some o' → GObj h (Seen cx h ep g w ids objs) i o') :
    Mem (calleeCx cx h g w ids objs) (startHeap objs 0) 0 (calleeGh h g ids) w := by
  have hget : ∀ k o', startHeap objs 0 k = some o' → ∃ i o, k < ids.length ∧ ids[k]? = some i ∧ ids.getD k 0 = i ∧ i ∈ ids ∧ objs[k]? = some o' ∧ h i = some o ∧ GObj h (Seen cx h ep g w ids objs) i o' := by
    intro k o' hk
    rw [startHeap_get, if_pos (Nat.zero_le _), Nat.sub_zero] at hk
    have hlt := (List.getElem?_eq_some_iff.1 hk).1
    have hi : ids[k]? = some (ids[k]'(by omega)) := List.getElem?_eq_getElem (by omega)
    have hg := hobj k _ o' hi hk
    refine ⟨ids[k]'(by omega), ?_⟩
    have hmem : ids[k]'(by omega) ∈ ids := List.getElem_mem _
    have hgd : ids.getD k 0 = ids[k]'(by omega) := by simp [List.getD, hi]
    rcases hg with ⟨sz, xs, h1, h2⟩ | ⟨cs, ds, h1, h2, h3⟩
    · exact ⟨_, by omega, hi, hgd, hmem, hk, h2, .inl ⟨sz, xs, h1, h2⟩⟩
    · exact ⟨_, by omega, hi, hgd, hmem, hk, h2, .inr ⟨cs, ds, h1, h2, h3⟩⟩
  refine ⟨?_, ?_, ?_, ?_, m.I_lt, fun b hb => hb, fun b hb => .inl hb, fun b hb => .inl hb, fun b hb => hb, fun b hb => .inl hb, fun k hk => hk, fun k o' _ ho => ⟨o', ho, AO.alike_refl _, rfl⟩, ?_, ?_, ?_, FrameW.refl _ _⟩
  · intro k o' hk
    obtain ⟨i, o, hlt, hi, hgd, hmem, hko, hio, hg⟩ := hget k o' hk
    simp only [calleeGh, hgd]
    rcases hg with ⟨sz, xs, rfl, h2⟩ | ⟨cs, ds, rfl, h2, h3, h4⟩
    · obtain ⟨h5, h6⟩ := m.objs i _ h2
      exact ⟨h5, fun x hx => .inr ⟨i, sz, xs, hmem, h2, hx⟩⟩
    · obtain ⟨b, cur, e, h5, h6, h7, h8, h9, h10⟩ := m.objs i _ h2
      refine ⟨b, cur, e, h5, h6, by omega, h8, ?_, fun j u d hu hd => ?_⟩
      · rintro (hI | ⟨i', sz, xs, h11, h12, h13⟩)
        · exact h9 (m.I_N b hI)
        · exact h9 ((m.objs i' _ h12).2 b h13)
      · have hj := (List.getElem?_eq_some_iff.1 hd).1
        have hcj : cs[j]? = some (cs[j]'(by omega)) := List.getElem?_eq_getElem (by omega)
        obtain ⟨h11, h12⟩ := h10 j u _ hu hcj
        exact ⟨h11, h4 j _ d hcj hd u h12⟩
  · intro k o' hk
    obtain ⟨i, o, hlt, _⟩ := hget k o' hk
    exact hlt
  · intro k k' o1 o2 b hk hk' hf hf'
    obtain ⟨i, o, hlt, hi, hgd, _, _, hio, _⟩ := hget k o1 hk
    obtain ⟨i', o', hlt', hi', hgd', _, _, hio', _⟩ := hget k' o2 hk'
    simp only [calleeGh, hgd, hgd'] at hf hf'
    have := m.disj i i' o o' b hio hio' hf hf'
    subst this
    have e1 := (List.getElem?_eq_some_iff.1 hi).2
    have e2 := (List.getElem?_eq_some_iff.1 hi').2
    have hpw := List.pairwise_iff_getElem.1 hnd
    rcases Nat.lt_trichotomy k k' with h1 | h1 | h1
    · exact absurd (e1.trans e2.symm) (hpw k k' _ _ h1)
    · exact h1
    · exact absurd (e2.trans e1.symm) (hpw k' k _ _ h1)
  · intro k o' b hk hf
    obtain ⟨i, o, hlt, hi, hgd, hmem, _, hio, _⟩ := hget k o' hk
    simp only [calleeGh, hgd] at hf
    exact ⟨.inl ⟨i, o, hmem, hio, hf⟩, (m.mine i o b hio hf).2⟩
  · rintro b (hI | ⟨i, sz, xs, _, h2, h3⟩)
    · exact m.I_lt b hI
    · exact (m.objs i _ h2).lt b h3
  · exact fun b hb => hb
  · exact fun b hb => ⟨m.I_lt b hb, fun ⟨id, o, _, h2, h3⟩ => (m.mine id o b h2 h3).2 hb⟩
end
end Go.Proofs.Ytfebkfeobdffjaa
