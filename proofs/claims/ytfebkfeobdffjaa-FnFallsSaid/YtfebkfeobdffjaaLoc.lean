/- An operation sees no more of memory than what it looks at: plain Lean, no memory here. -/
import Derived.Test.YtfebkfeobdffjaaAv
namespace Go.Proofs.Ytfebkfeobdffjaa
open Go
set_option linter.unusedSimpArgs false

section
variable {h h' : Nat → Option AO} {ep ep' : Nat}

theorem Md.ok_local {m : Md} (he : ep' = ep ∨ m.isSnap = false) : m.ok ep' = m.ok ep := by
  rcases he with rfl | he
  · rfl
  · cases m <;> first | rfl | (simp [Md.isSnap] at he)

theorem content_local {x : AV} (hl : ∀ id ∈ x.id?, h' id = h id) (he : ep' = ep ∨ x.snaps1 = false) : content h' ep' x = content h ep x := by
  cases x <;> try rfl
  · rename_i m sz xs
    have := Md.ok_local (m := m) (he.imp id fun h => h)
    cases m <;> cases xs <;> simp only [content, this]
  · rename_i id
    have := hl id (by simp [AV.id?])
    simp only [content, this]
  · rename_i id lo len
    have := hl id (by simp [AV.id?])
    simp only [content, this]

theorem lend1_local {x : AV} (hl : ∀ id ∈ x.id?, h' id = h id) (he : ep' = ep ∨ x.snaps1 = false) : lend1 h' ep' x = lend1 h ep x := by
  have hc := content_local hl he
  cases x <;> first | rfl | (simp only [lend1, hc]; done) | skip
  rename_i m sz xs
  cases m <;> simp only [lend1, hc]

theorem lendL_local : ∀ {cs : List AV}, (∀ id ∈ cs.flatMap AV.id?, h' id = h id) → (ep' = ep ∨ cs.any AV.snaps1 = false) → lendL h' ep' cs = lendL h ep cs
  | [], _, _ => rfl
  | c :: cs, hl, he => by
    have h1 := lend1_local (h := h) (h' := h') (ep := ep) (ep' := ep') (x := c) (fun id hi => hl id (by rw [List.flatMap_cons]; exact List.mem_append.2 (.inl hi))) (he.imp id fun h => by simp only [List.any_cons, Bool.or_eq_false_iff] at h; exact h.1)
    have h2 := lendL_local (cs := cs) (fun id hi => hl id (by rw [List.flatMap_cons]; exact List.mem_append.2 (.inr hi))) (he.imp id fun h => by simp only [List.any_cons, Bool.or_eq_false_iff] at h; exact h.2)
    simp only [lendL, h1, h2]

theorem lendV_local {x : AV} (hl : ∀ id ∈ x.ids, h' id = h id) (he : ep' = ep ∨ x.snaps = false) : lendV h' ep' x = lendV h ep x := by
  cases x <;> first | (simp only [lendV]; exact lend1_local (by simpa [AV.ids] using hl) (he.imp id fun h => h)) | skip
  rename_i cs
  simp only [lendV]
  rw [lendL_local (by simpa [AV.ids] using hl) (he.imp id fun h => h)]

theorem give1_local {x : AV} {n : Nat} (hl : ∀ id ∈ x.id?, h' id = h id) : give1 h' n x = give1 h n x := by
  cases x <;> try rfl
  · rename_i m sz xs
    cases m <;> cases xs <;> rfl
  rename_i id
  have := hl id (by simp [AV.id?])
  simp only [give1, this]

theorem giveL_local : ∀ {cs : List AV} {n : Nat}, (∀ id ∈ cs.flatMap AV.id?, h' id = h id) → giveL h' n cs = giveL h n cs
  | [], _, _ => rfl
  | c :: cs, n, hl => by
    have h1 := give1_local (h := h) (h' := h') (x := c) (n := n) (fun id hi => hl id (by rw [List.flatMap_cons]; exact List.mem_append.2 (.inl hi)))
    have h2 : ∀ k, giveL h' k cs = giveL h k cs := fun k => giveL_local (fun id hi => hl id (by rw [List.flatMap_cons]; exact List.mem_append.2 (.inr hi)))
    simp only [giveL, h1, h2]

theorem giveV_local {x : AV} {n : Nat} (hl : ∀ id ∈ x.ids ++ inner h x, h' id = h id) : giveV h' n x = giveV h n x := by
  have hl1 : ∀ id ∈ x.ids, h' id = h id := fun id hi => hl id (List.mem_append.2 (.inl hi))
  cases x <;> first | (simp only [giveV]; exact give1_local (by simpa [AV.ids] using hl1)) | skip
  · rename_i id i off
    have h1 := hl1 id (by simp [AV.ids, AV.id?])
    by_cases hz : i = 0 ∧ off = 0
    · obtain ⟨rfl, rfl⟩ := hz
      simp only [giveV, h1]
      cases hh : h id with
      | none => rfl
      | some o =>
        cases o <;> try rfl
        rename_i cells
        simp only
        rw [giveL_local (fun j hj => hl j (List.mem_append.2 (.inr (by simpa [inner, hh] using hj))))]
    · have e : ∀ h0 : Nat → Option AO, giveV h0 n (.ptr id i off) = give1 h0 n (.ptr id i off) := fun h0 => by
        cases i <;> cases off <;> first | rfl | exact absurd ⟨rfl, rfl⟩ hz
      rw [e, e]
      rfl
  · rename_i cs
    simp only [giveV]
    rw [giveL_local (by simpa [AV.ids] using hl1)]

theorem inner_local {x : AV} (hl : ∀ id ∈ x.ids, h' id = h id) : inner h' x = inner h x := by
  cases x <;> try rfl
  rename_i id i off
  have := hl id (by simp [AV.ids, AV.id?])
  simp only [inner, this]

theorem passArgs_local : ∀ {ms : List Bool} {vs : List AV} {n : Nat}, (∀ id ∈ vs.flatMap (fun v => v.ids ++ inner h v), h' id = h id) → (ep' = ep ∨ ∀ v ∈ vs, v.snaps = false) → passArgs h' ep' n ms vs = passArgs h ep n ms vs
  | [], [], _, _, _ => rfl
  | [], _ :: _, _, _, _ => rfl
  | b :: ms, [], _, _, _ => by cases b <;> rfl
  | b :: ms, v :: vs, n, hl, he => by
    have hl1 : ∀ id ∈ v.ids ++ inner h v, h' id = h id := fun id hi => hl id (by rw [List.flatMap_cons]; exact List.mem_append.2 (.inl hi))
    have hl2 : ∀ id ∈ vs.flatMap (fun v => v.ids ++ inner h v), h' id = h id := fun id hi => hl id (by rw [List.flatMap_cons]; exact List.mem_append.2 (.inr hi))
    have he2 : ep' = ep ∨ ∀ v ∈ vs, v.snaps = false := he.imp id fun h v hv => h v (List.mem_cons_of_mem _ hv)
    have h2 : ∀ k, passArgs h' ep' k ms vs = passArgs h ep k ms vs := fun k => passArgs_local hl2 he2
    cases b with
    | true => simp only [passArgs, giveV_local hl1, h2]
    | false =>
      have h1 := lendV_local (h := h) (h' := h') (ep := ep) (ep' := ep') (x := v) (fun id hi => hl1 id (List.mem_append.2 (.inl hi))) (he.imp id fun h => h v List.mem_cons_self)
      simp only [passArgs, h1, h2]

theorem absorb1_local {x : AV} (hl : ∀ id ∈ x.id?, h' id = h id) : absorb1 h' x = absorb1 h x := by
  cases x <;> try rfl
  · rename_i m sz xs
    cases m <;> cases xs <;> rfl
  rename_i id
  have := hl id (by simp [AV.id?])
  simp only [absorb1, this]

theorem absorb_local : ∀ {cs : List AV}, (∀ id ∈ cs.flatMap AV.id?, h' id = h id) → absorb h' cs = absorb h cs
  | [], _ => rfl
  | c :: cs, hl => by
    have h1 := absorb1_local (h := h) (h' := h') (x := c) (fun id hi => hl id (by rw [List.flatMap_cons]; exact List.mem_append.2 (.inl hi)))
    have h2 : absorb h' cs = absorb h cs := absorb_local (fun id hi => hl id (by rw [List.flatMap_cons]; exact List.mem_append.2 (.inr hi)))
    simp only [absorb, h1, h2]

theorem parts_ids {v : AV} {vs : List AV} (hp : v.parts = some vs) : vs.flatMap AV.id? = v.ids := by
  cases v <;> simp only [AV.parts, reduceCtorEq, Option.some.injEq] at hp <;> (subst hp; first | rfl | simp [AV.ids])

theorem fillRows_local {g g' : Nat → AV} {sz : Nat} : ∀ {ps : List (Nat × Opd)} {rows : List (List AV)}, (∀ p ∈ ps, p.2.ev g' = p.2.ev g) → (∀ id ∈ ps.flatMap (fun p => (p.2.ev g).ids), h' id = h id) → fillRows h' g' sz rows ps = fillRows h g sz rows ps
  | [], _, _, _ => rfl
  | (i, x) :: ps, rows, ho, hl => by
    have h1 : x.ev g' = x.ev g := ho (i, x) List.mem_cons_self
    have h2 : ∀ rows, fillRows h' g' sz rows ps = fillRows h g sz rows ps := fun rows => fillRows_local (fun p hp => ho p (List.mem_cons_of_mem _ hp)) (fun id hi => hl id (by rw [List.flatMap_cons]; exact List.mem_append.2 (.inr hi)))
    simp only [fillRows, h1, h2]
    cases hp : (x.ev g).parts with
    | none => rfl
    | some vs =>
      simp only
      rw [absorb_local (fun id hi => hl id (by rw [List.flatMap_cons]; exact List.mem_append.2 (.inl (by rw [← parts_ids hp]; exact hi))))]

theorem fillParts_local {g g' : Nat → AV} : ∀ {ps : List (Nat × Nat × Opd)} {cs : List AV}, (∀ p ∈ ps, p.2.2.ev g' = p.2.2.ev g) → fillParts g' cs ps = fillParts g cs ps
  | [], _, _ => rfl
  | (off, n, x) :: ps, cs, ho => by
    have h1 : x.ev g' = x.ev g := ho (off, n, x) List.mem_cons_self
    have h2 : ∀ cs, fillParts g' cs ps = fillParts g cs ps := fun cs => fillParts_local (fun p hp => ho p (List.mem_cons_of_mem _ hp))
    simp only [fillParts, h1, h2]

theorem evL_local {g g' : Nat → AV} : ∀ {ys : List Opd}, (∀ y ∈ ys, y.ev g' = y.ev g) → evL g' ys = evL g ys
  | [], _ => rfl
  | y :: ys, ho => by
    simp only [evL, ho y List.mem_cons_self, evL_local (ys := ys) (fun z hz => ho z (List.mem_cons_of_mem _ hz))]

theorem takeRows_local {x : AV} {flat : Bool} (hl : ∀ id ∈ x.id?, h' id = h id) (he : ep' = ep ∨ x.snaps1 = false) : takeRows h' ep' flat x = takeRows h ep flat x := by
  cases flat with
  | true => simp only [takeRows, content_local hl he]
  | false =>
    cases x <;> try rfl
    · rename_i m sz xs
      cases m <;> cases xs <;> rfl
    · rename_i id
      have := hl id (by simp [AV.id?])
      simp only [takeRows, this]
    · rename_i id lo len
      have := hl id (by simp [AV.id?])
      simp only [takeRows, this]

theorem lendO_local {v : AV} (hs : (v.lendO ep).snaps1 = false) : v.lendO ep' = v.lendO ep := by
  cases v <;> try rfl
  rename_i m sz xs
  cases m <;> first | rfl | (simp [AV.lendO, AV.snaps1, Md.isSnap] at hs)

theorem lendAO_local {v : AV} (hs : bsnap (lendAO ep v) = false) : lendAO ep' v = lendAO ep v := by
  by_cases hv : ∃ cs, v = .agg cs
  · obtain ⟨cs, rfl⟩ := hv
    simp only [lendAO, AV.agg.injEq]
    refine List.map_congr_left (fun c hc => lendO_local (ep := ep) ?_)
    simp only [lendAO, bsnap, AV.snaps, List.any_map, List.any_eq_false] at hs
    have := hs c hc
    simpa using this
  · have e : ∀ k, lendAO k v = v.lendO k := fun k => by cases v <;> first | rfl | exact absurd ⟨_, rfl⟩ hv
    rw [e] at hs
    rw [e, e]
    refine lendO_local ?_
    cases v <;> first | rfl | exact hs | skip
    rename_i m sz xs
    cases m <;> first | rfl | exact hs

theorem snaps1_of {v : AV} (h : bsnap v = false) : v.snaps1 = false := by
  cases v <;> first | rfl | exact h

theorem snaps_of {v : AV} (h : bsnap v = false) : v.snaps = false := by
  cases v <;> first | rfl | exact h

theorem evL_mem {g : Nat → AV} : ∀ {ys : List Opd} {v : AV}, v ∈ evL g ys → ∃ y ∈ ys, v = y.ev g
  | [], v, h => by simp [evL] at h
  | y :: ys, v, h => by
    simp only [evL, List.mem_cons] at h
    rcases h with rfl | h
    · exact ⟨y, List.mem_cons_self, rfl⟩
    · obtain ⟨z, hz, e⟩ := evL_mem h
      exact ⟨z, List.mem_cons_of_mem _ hz, e⟩

theorem optEv_local {g g' : Nat → AV} {x : Option Opd} (ho : ∀ y ∈ x.toList, y.ev g' = y.ev g) : x.map (·.ev g') = x.map (·.ev g) := by
  cases x with
  | none => rfl
  | some y => simp only [Option.map_some, ho y (by simp)]

theorem semCall_local {cl : Callee} {k : Nat} {modes : List Bool} {vs : List AV} {key : Nat} (hl : ∀ id ∈ vs.flatMap (fun v => v.ids ++ inner h v), h' id = h id) (he : ep' = ep ∨ ∀ v ∈ vs, v.snaps = false) :
    semCall cl k modes vs key h' ep' = semCall cl k modes vs key h ep := by
  simp only [semCall, passArgs_local hl he]

theorem looksCall_local : ∀ {vs : List AV}, (∀ id ∈ vs.flatMap (fun v => v.ids ++ inner h v), h' id = h id) → vs.flatMap (fun v => v.ids ++ inner h' v) = vs.flatMap (fun v => v.ids ++ inner h v)
  | [], _ => rfl
  | v :: vs, hl => by
    simp only [List.flatMap_cons] at hl ⊢
    rw [inner_local (x := v) (fun id hi => hl id (List.mem_append.2 (.inl (List.mem_append.2 (.inl hi))))), looksCall_local (fun id hi => hl id (List.mem_append.2 (.inr hi)))]

/-- The same slots, the same memory where it looks, and no loan that another time could end: the same outcome. -/
theorem sem_local {cl : Callee} {o : COp} {key : Nat} {g g' : Nat → AV} {out : Out} (hopd : ∀ y ∈ o.opds, y.ev g' = y.ev g) (hlook : ∀ id ∈ o.looks g h, h' id = h id)
    (hep : ep' = ep ∨ (bsnap out.v = false ∧ ∀ y ∈ o.opds, bsnap (y.ev g) = false)) (hs : sem cl o key g h ep = some out) : sem cl o key g' h' ep' = some out ∧ o.looks g' h' = o.looks g h := by
  have hsn : ∀ y ∈ o.opds, ep' = ep ∨ bsnap (y.ev g) = false := fun y hy => hep.imp id fun h => h.2 y hy
  have hsnv : ep' = ep ∨ bsnap out.v = false := hep.imp id fun h => h.1
  have hbp : ∀ y ∈ o.opds, ∀ m row off, y.ev g = .bptr m row off → m.ok ep' = m.ok ep := fun y hy m row off e => Md.ok_local ((hsn y hy).imp id fun h => by rw [e] at h; exact h)
  have hsl : ∀ y ∈ o.opds, ∀ m sz xs, y.ev g = .sl m sz xs → m.ok ep' = m.ok ep := fun y hy m sz xs e => Md.ok_local ((hsn y hy).imp id fun h => by rw [e] at h; exact h)
  have hct : ∀ y ∈ o.opds, (∀ id ∈ (y.ev g).id?, h' id = h id) → content h' ep' (y.ev g) = content h ep (y.ev g) := fun y hy hl => content_local hl ((hsn y hy).imp id fun h => snaps1_of h)
  cases o with
  | mov x => simp only [sem, COp.looks, hopd x (by simp [COp.opds])]; exact ⟨hs, trivial⟩
  | nilck x =>
    have e := hopd x (by simp [COp.opds])
    have hb := hbp x (by simp [COp.opds])
    simp only [COp.looks] at hlook
    simp only [sem, COp.looks, e] at hs ⊢
    refine ⟨?_, trivial⟩
    generalize x.ev g = v at *
    cases v <;> try (cases hs; done)
    · rename_i id i off; simp only [hlook id (by simp [AV.id?])]; exact hs
    · rename_i m row off; simp only [hb m row off rfl]; exact hs
  | pick c a b => simp only [sem, COp.looks, hopd c (by simp [COp.opds]), hopd a (by simp [COp.opds]), hopd b (by simp [COp.opds])]; exact ⟨hs, trivial⟩
  | bin op x y => simp only [sem, COp.looks, hopd x (by simp [COp.opds]), hopd y (by simp [COp.opds])]; exact ⟨hs, trivial⟩
  | beq n x y => simp only [sem, COp.looks, hopd x (by simp [COp.opds]), hopd y (by simp [COp.opds])]; exact ⟨hs, trivial⟩
  | eqs n ks x y => simp only [sem, COp.looks, hopd x (by simp [COp.opds]), hopd y (by simp [COp.opds])]; exact ⟨hs, trivial⟩
  | un op x => simp only [sem, COp.looks, hopd x (by simp [COp.opds])]; exact ⟨hs, trivial⟩
  | conv k x => simp only [sem, COp.looks, hopd x (by simp [COp.opds])]; exact ⟨hs, trivial⟩
  | toStr x =>
    simp only [COp.looks] at hlook
    simp only [sem, COp.looks, hopd x (by simp [COp.opds]), hct x (by simp [COp.opds]) hlook]; exact ⟨hs, trivial⟩
  | sconv x => simp only [sem, COp.looks, hopd x (by simp [COp.opds])]; exact ⟨hs, trivial⟩
  | alloc zs => simp only [sem, COp.looks]; exact ⟨hs, trivial⟩
  | box x => simp only [sem, COp.looks, hopd x (by simp [COp.opds])]; exact ⟨hs, trivial⟩
  | build zs ps =>
    simp only [sem, COp.looks]
    rw [fillParts_local (g := g) (g' := g') (fun p hp => hopd p.2.2 (by simp only [COp.opds]; exact List.mem_map.2 ⟨p, hp, rfl⟩))]
    exact ⟨hs, trivial⟩
  | bslice sz zs len ps =>
    simp only [COp.looks] at hlook
    have hps : ∀ p ∈ ps, p.2.ev g' = p.2.ev g := fun p hp => hopd p.2 (by simp only [COp.opds]; exact List.mem_map.2 ⟨p, hp, rfl⟩)
    simp only [sem, COp.looks]
    rw [fillRows_local hps hlook]
    refine ⟨hs, ?_⟩
    clear hs hlook hopd hsn hbp hsl hct hep hsnv
    induction ps with
    | nil => rfl
    | cons p ps ih => simp only [List.flatMap_cons]; rw [hps p List.mem_cons_self, ih (fun q hq => hps q (List.mem_cons_of_mem _ hq))]
  | mksl sz zs bytes l => simp only [sem, COp.looks, hopd l (by simp [COp.opds])]; exact ⟨hs, trivial⟩
  | load x sz agg hint =>
    have e := hopd x (by simp [COp.opds])
    have hb := hbp x (by simp [COp.opds])
    simp only [COp.looks] at hlook
    simp only [sem, COp.looks, e] at hs ⊢
    refine ⟨?_, trivial⟩
    generalize x.ev g = v at *
    cases v <;> try (cases hs; done)
    · rename_i id i off
      simp only [hlook id (by simp [AV.id?])]
      cases hh : h id with
      | none => simp only [hh] at hs; cases hs
      | some ob =>
        simp only [hh] at hs ⊢
        cases ob <;> try exact hs
        rename_i sz' xs
        simp only at hs ⊢
        cases hx : xs[i]? with
        | none => simp only [hx] at hs; cases hs
        | some row =>
          simp only [hx] at hs ⊢
          cases hint <;> try exact hs
          · simp only at hs ⊢
            cases hl : loadFrom row off sz agg with
            | none => simp only [hl] at hs; cases hs
            | some r =>
              simp only [hl, Out.val, Option.some.injEq] at hs ⊢
              rcases hsnv with rfl | hsnv
              · exact hs
              · rw [lendAO_local (ep := ep) (ep' := ep') (v := r) (by rw [← hs] at hsnv; exact hsnv)]; exact hs
          · simp only at hs ⊢
            split at hs
            · simp only [Out.val, Option.some.injEq] at hs ⊢
              rcases hsnv with rfl | hsnv
              · exact hs
              · rw [← hs] at hsnv; simp [bsnap, AV.snaps, AV.snaps1] at hsnv
            · cases hs
    · rename_i m row off; simp only [hb m row off rfl]; exact hs
  | store x y sz =>
    have e1 := hopd x (by simp [COp.opds])
    have e2 := hopd y (by simp [COp.opds])
    simp only [COp.looks] at hlook
    simp only [sem, COp.looks, e1, e2] at hs ⊢
    refine ⟨?_, trivial⟩
    generalize x.ev g = v at *
    cases v <;> try (cases hs; done)
    rename_i id i off
    cases hp : (y.ev g).parts with
    | none => simp only [hp] at hs; cases hs
    | some vs =>
      have hab : absorb h' vs = absorb h vs := absorb_local (fun j hj => hlook j (List.mem_append.2 (.inr (by rw [← parts_ids hp]; exact hj))))
      simp only [hp] at hs ⊢
      simp only [hlook id (by simp [AV.id?]), hab]
      exact hs
  | faddr x n =>
    have e := hopd x (by simp [COp.opds])
    have hb := hbp x (by simp [COp.opds])
    simp only [COp.looks] at hlook
    simp only [sem, COp.looks, e] at hs ⊢
    refine ⟨?_, trivial⟩
    generalize x.ev g = v at *
    cases v <;> try (cases hs; done)
    · rename_i id i off; simp only [hlook id (by simp [AV.id?])]; exact hs
    · rename_i m row off; simp only [hb m row off rfl]; exact hs
  | iaddr sz x i =>
    have e1 := hopd x (by simp [COp.opds])
    have e2 := hopd i (by simp [COp.opds])
    have hb := hsl x (by simp [COp.opds])
    simp only [COp.looks] at hlook
    simp only [sem, COp.looks, e1, e2] at hs ⊢
    refine ⟨?_, trivial⟩
    rw [← hs]
    generalize x.ev g = v at *
    cases v <;> try rfl
    · rename_i m sz' xs; simp only [hb m sz' xs rfl]
    · rename_i id; simp only [hlook id (by simp [AV.id?])]
    · rename_i id lo len; simp only [hlook id (by simp [AV.id?])]
  | sidx x i => simp only [sem, COp.looks, hopd x (by simp [COp.opds]), hopd i (by simp [COp.opds])]; exact ⟨hs, trivial⟩
  | slice sz x lo hi =>
    have e1 := hopd x (by simp [COp.opds])
    have e2 := optEv_local (g := g) (g' := g') (x := lo) (fun y hy => hopd y (by simp only [COp.opds]; exact List.mem_cons_of_mem _ (List.mem_append.2 (.inl hy))))
    have e3 := optEv_local (g := g) (g' := g') (x := hi) (fun y hy => hopd y (by simp only [COp.opds]; exact List.mem_cons_of_mem _ (List.mem_append.2 (.inr hy))))
    have hb := hsl x (by simp [COp.opds])
    simp only [COp.looks] at hlook
    simp only [sem, COp.looks, e1, e2, e3] at hs ⊢
    refine ⟨?_, trivial⟩
    rw [← hs]
    generalize x.ev g = v at *
    cases v <;> try rfl
    · rename_i m sz' xs
      cases m <;> cases xs <;> first | rfl | simp only [hb _ _ _ rfl]
    · rename_i id; simp only [hlook id (by simp [AV.id?])]
    · rename_i id lo len; simp only [hlook id (by simp [AV.id?])]
  | sslice x lo hi =>
    have e1 := hopd x (by simp [COp.opds])
    have e2 := optEv_local (g := g) (g' := g') (x := lo) (fun y hy => hopd y (by simp only [COp.opds]; exact List.mem_cons_of_mem _ (List.mem_append.2 (.inl hy))))
    have e3 := optEv_local (g := g) (g' := g') (x := hi) (fun y hy => hopd y (by simp only [COp.opds]; exact List.mem_cons_of_mem _ (List.mem_append.2 (.inr hy))))
    simp only [sem, COp.looks, e1, e2, e3] at hs ⊢
    exact ⟨hs, trivial⟩
  | len str x =>
    have e1 := hopd x (by simp [COp.opds])
    simp only [COp.looks] at hlook
    cases str with
    | true => simp only [sem, COp.looks, e1] at hs ⊢; exact ⟨hs, trivial⟩
    | false => simp only [sem, COp.looks, e1, hct x (by simp [COp.opds]) hlook] at hs ⊢; exact ⟨hs, trivial⟩
  | append sz bytes flat x y =>
    have e1 := hopd x (by simp [COp.opds])
    have e2 := hopd y (by simp [COp.opds])
    simp only [COp.looks] at hlook
    have htr : takeRows h' ep' flat (y.ev g) = takeRows h ep flat (y.ev g) := takeRows_local (fun id hi => hlook id (List.mem_append.2 (.inr hi))) ((hsn y (by simp [COp.opds])).imp id fun h => snaps1_of h)
    simp only [sem, COp.looks, e1, e2, htr] at hs ⊢
    refine ⟨?_, trivial⟩
    rw [← hs]
    generalize x.ev g = v at *
    cases v <;> try rfl
    · rename_i m0 sz0 xs0
      cases m0 <;> cases xs0 <;> rfl
    · rename_i id
      simp only [hlook id (List.mem_append.2 (.inl (by simp [AV.id?])))]
  | mx b x y => simp only [sem, COp.looks, hopd x (by simp [COp.opds]), hopd y (by simp [COp.opds])]; exact ⟨hs, trivial⟩
  | ext x i => simp only [sem, COp.looks, hopd x (by simp [COp.opds])]; exact ⟨hs, trivial⟩
  | mkmap kb => simp only [sem, COp.looks]; exact ⟨hs, trivial⟩
  | lookup kb z m k =>
    have e1 := hopd m (by simp [COp.opds])
    have e2 := hopd k (by simp [COp.opds])
    simp only [COp.looks] at hlook
    simp only [sem, COp.looks, e1, e2] at hs ⊢
    refine ⟨?_, trivial⟩
    rw [← hs]
    generalize m.ev g = v at *
    generalize keyOf kb (k.ev g) = u at *
    cases v <;> cases u <;> try rfl
    rename_i id _
    simp only [hlook id (by simp [AV.id?])]
  | mapset kb m k v =>
    have e1 := hopd m (by simp [COp.opds])
    have e2 := hopd k (by simp [COp.opds])
    have e3 := hopd v (by simp [COp.opds])
    simp only [COp.looks] at hlook
    simp only [sem, COp.looks, e1, e2, e3] at hs ⊢
    refine ⟨?_, trivial⟩
    rw [← hs]
    generalize m.ev g = v0 at *
    generalize keyOf kb (k.ev g) = u at *
    cases v0 <;> cases u <;> try rfl
    rename_i id _
    simp only [hlook id (by simp [AV.id?])]
  | call k modes args =>
    have e1 := evL_local (g := g) (g' := g') (ys := args) (fun y hy => hopd y (by simp only [COp.opds]; exact hy))
    simp only [COp.looks] at hlook
    have he : ep' = ep ∨ ∀ v ∈ evL g args, v.snaps = false := hep.imp id fun h v hv => by
      obtain ⟨y, hy, rfl⟩ := evL_mem hv
      exact snaps_of (h.2 y (by simp only [COp.opds]; exact hy))
    simp only [sem, COp.looks, e1] at hs ⊢
    rw [semCall_local hlook he, looksCall_local hlook]
    exact ⟨hs, rfl⟩
  | callf f modes args =>
    have e1 := evL_local (g := g) (g' := g') (ys := args) (fun y hy => hopd y (by simp only [COp.opds]; exact List.mem_cons_of_mem _ hy))
    have e2 := hopd f (by simp [COp.opds])
    simp only [COp.looks] at hlook
    have he : ep' = ep ∨ ∀ v ∈ evL g args, v.snaps = false := hep.imp id fun h v hv => by
      obtain ⟨y, hy, rfl⟩ := evL_mem hv
      exact snaps_of (h.2 y (by simp only [COp.opds]; exact List.mem_cons_of_mem _ hy))
    simp only [sem, COp.looks, e1, e2] at hs ⊢
    rw [looksCall_local hlook]
    refine ⟨?_, rfl⟩
    rw [← hs]
    generalize f.ev g = v at *
    cases v <;> try rfl
    simp only [semCall_local hlook he]
  | callin k x args =>
    have e1 := evL_local (g := g) (g' := g') (ys := args) (fun y hy => hopd y (by simp only [COp.opds]; exact List.mem_cons_of_mem _ hy))
    have e2 := hopd x (by simp [COp.opds])
    have hx := hsn x (by simp [COp.opds])
    simp only [COp.looks] at hlook
    simp only [sem, COp.looks, e1, e2] at hs ⊢
    refine ⟨?_, trivial⟩
    generalize x.ev g = v at *
    cases v <;> try (cases hs; done)
    rename_i e id i off
    have he : ep' = ep := hx.resolve_right (by simp [bsnap, AV.snaps, AV.snaps1])
    subst he
    simp only [hlook id (by simp [AV.id?])]
    exact hs
end
end Go.Proofs.Ytfebkfeobdffjaa
