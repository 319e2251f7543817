/- Each operation of the model does what the abstract machine's does: append. -/
import Derived.Test.YtfebkfeobdffjaaMem
namespace Go.Proofs.Ytfebkfeobdffjaa
open Go Go.RowKit
set_option linter.unusedSimpArgs false

section
variable {P : Program} {w : World} {t ty e : TypeId} {i0 : TypeInfo}

theorem run_append_zero (ht : P.underlying t = some (.slice e)) (hi : P.info? e = some i0) (base ad : Option Addr) (sLen sCap c : Nat) (h : sLen ≤ sCap) :
    (Builtin.append_ #[t, t] ty #[.slice base sLen sCap, .slice ad 0 c]).run P w = .ok (.slice base sLen sCap) w := by
  have hf : (Builtin.firstCells i0.size 0 (.slice ad 0 c)).run P w = .ok #[] w := by
    cases ad <;> simp [Builtin.firstCells, loadCells, loadCellsFrom]
  cases base <;> simp [Builtin.append_, run_underlying ht, sizeOf, typeInfo, hi, Builtin.lenOf, h, hf, storeCells]

theorem run_append_room' (ht : P.underlying t = some (.slice e)) (hi : P.info? e = some i0) (e2 : TypeId) (b sLen sCap : Nat) (cur : Array Value) (hg : w.heap[b]? = some (.cells cur e2 (0, 0)))
    (ad : Addr) (m c : Nat) (news : List Value) (hl : news.length = m * i0.size) (hnews : ∀ j u, news[j]? = some u → w.cell? (ad.add j) = some u) (h1 : ∀ u ∈ news, u.oneCell' = true)
    (hroom : sLen + m ≤ sCap) (hfit : sLen * i0.size + news.length ≤ cur.size) :
    (Builtin.append_ #[t, t] ty #[.slice (some ⟨b, 0, none⟩) sLen sCap, .slice (some ad) m c]).run P w =
      .ok (.slice (some ⟨b, 0, none⟩) (sLen + m) sCap) (w.setRow b (cur.toList.take (sLen * i0.size) ++ news ++ cur.toList.drop (sLen * i0.size + news.length)).toArray) := by
  have hf := run_firstCells_some (P := P) w i0.size m ad m c news hl hnews
  have hst := run_storeCells_at P b (sLen * i0.size) e2 news 0 cur w hg (by simpa using hfit) h1
  simp only [Nat.add_zero] at hst
  simp [Builtin.append_, run_underlying ht, sizeOf, typeInfo, hi, Builtin.lenOf, hroom, hf, Addr.add_lit, hst]
end

section
variable {cx : Cx} {s : St} {g : Gh} {a : Act} {w : World} {o : Oper} {key : Nat} {out : Out} {cl : Callee}

/-- The cells of a slice's content. -/
theorem content_cells (m : Mem cx s.heap s.ep g w) {v : Value} {x : AV} {sz : Nat} {xs : List (List AV)} (hr : SRel cx.num w cx.R g s.heap s.ep v x) (h : content s.heap s.ep x = some (sz, xs)) :
    (xs = [] ∧ ∃ ad cap, v = .slice ad 0 cap) ∨ ∃ (b off cap : Nat) (us : Nat → Nat → Value), v = .slice (some ⟨b, off, none⟩) xs.length cap ∧ (∀ row ∈ xs, row.length = sz) ∧
      ∀ i j c, cellAt xs i j = some c → w.cell? ⟨b, off + i * sz + j, none⟩ = some (us i j) ∧ Bor w (fun _ => True) (us i j) c := by
  cases x <;> simp only [content, reduceCtorEq] at h
  · rename_i md sz' ys
    cases hr with
    | nil => simp only [Option.some.injEq, Prod.mk.injEq] at h; obtain ⟨_, rfl⟩ := h; exact .inl ⟨rfl, none, 0, rfl⟩
    | sl _ _ _ _ _ hm hlim hown =>
      have h' : md.ok s.ep = true ∧ sz' = sz ∧ ys = xs := by
        cases md <;> cases ys <;> simp_all [Md.ok] <;> (split at h <;> simp_all)
      obtain ⟨hok, rfl, rfl⟩ := h'
      have hb := hm hok
      cases hb with
      | nil => exact .inl ⟨rfl, _, _, rfl⟩
      | sl _ _ _ b off cap us hcap hbk hrow hcell hin => exact .inr ⟨b, off, cap, us, rfl, hrow, fun i j c hc => ⟨hcell i j c hc, (hin i j c hc).mono (Same.refl _ _) (fun _ _ => trivial)⟩⟩
  · rename_i id
    cases hh : s.heap id with
    | none => rw [hh] at h; cases h
    | some ob =>
      rw [hh] at h
      cases ob <;> simp only [reduceCtorEq, Option.some.injEq, Prod.mk.injEq] at h
      obtain ⟨rfl, rfl⟩ := h
      cases hr with
      | ref _ _ _ hu hv =>
        rw [hv _ hh]
        rcases (m.objs id _ hh).1.rows with ⟨h5, h6, _⟩ | ⟨b, cap, cur, e', us, fs, h5, hheap, _, _, _, hcell, hrows, _⟩
        · exact .inl ⟨h6, none, 0, h5⟩
        · exact .inr ⟨b, 0, cap, us, h5, hrows.row, fun i j c hc => ⟨by rw [cell_of_heap hheap, Nat.zero_add]; exact hcell i j c hc, (hrows.cl i j c hc).bor (fun _ _ => trivial) (fun _ _ => trivial)⟩⟩
  · rename_i id lo len
    cases hh : s.heap id with
    | none => rw [hh] at h; cases h
    | some ob =>
      rw [hh] at h
      cases ob <;> simp only [reduceCtorEq] at h
      rename_i sz0 xs0
      split at h
      case isFalse => cases h
      rename_i hle
      simp only [Option.some.injEq, Prod.mk.injEq] at h
      obtain ⟨rfl, rfl⟩ := h
      have hlen : (List.take len (List.drop lo xs0)).length = len := by simp; omega
      cases hr with
      | view _ _ _ _ _ hu hv =>
        obtain ⟨a', cap, h5, h6, h7⟩ := hv _ _ hh
        by_cases hz : len = 0
        · subst hz
          exact .inl ⟨by simp, a', cap, h5⟩
        · obtain ⟨b, n', c', h8, h9⟩ := h7 hz
          rcases (m.objs id _ hh).1.rows with ⟨_, h6, _⟩ | ⟨b', cap', cur, e', us, fs, h5', hheap, _, _, _, hcell, hrows, _⟩
          · subst h6; simp at hle; omega
          · rw [h8] at h5'
            simp only [Value.slice.injEq, Option.some.injEq, Addr.mk.injEq, and_true] at h5'
            obtain ⟨rfl, _⟩ := h5'
            have hat : ∀ i j c, cellAt (List.take len (List.drop lo xs0)) i j = some c → cellAt xs0 (lo + i) j = some c := by
              intro i j c hc
              obtain ⟨row, hr1, hr2⟩ := cellAt_some.1 hc
              refine cellAt_some.2 ⟨row, ?_, hr2⟩
              rw [List.getElem?_take] at hr1
              split at hr1
              · rwa [List.getElem?_drop] at hr1
              · cases hr1
            refine .inr ⟨b, lo * sz0, cap, fun i j => us (lo + i) j, by rw [hlen, h5, h9], fun row hr => hrows.row row (List.mem_of_mem_drop (List.mem_of_mem_take hr)), fun i j c hc => ?_⟩
            have hc' := hat i j c hc
            refine ⟨?_, (hrows.cl _ _ _ hc').bor (fun _ _ => trivial) (fun _ _ => trivial)⟩
            rw [cell_of_heap hheap, show lo * sz0 + i * sz0 + j = (lo + i) * sz0 + j by rw [Nat.add_mul]]
            exact hcell _ _ _ hc'

/-- What an append takes over: the rows, where they lie; what is left of the array that they came from. -/
structure Src (cx : Cx) (h : Nat → Option AO) (g : Gh) (w : World) (v : Value) (sz : Nat) (ys : List (List AV)) (ws : List (Nat × Option AO)) (us : Nat → Nat → Value) (fs : Nat → Nat → Nat → Prop) (F' : Nat → Prop) : Prop where
  at_ : (ys = [] ∧ ∃ ad cap, v = .slice ad 0 cap) ∨ ∃ (b off cap : Nat), v = .slice (some ⟨b, off, none⟩) ys.length cap ∧ ∀ i j c, cellAt ys i j = some c → w.cell? ⟨b, off + i * sz + j, none⟩ = some (us i j)
  rows : Rows w g.I sz ys us fs
  left : (ws = [] ∧ ∀ x, ¬ Fall ys fs x) ∨ ∃ id sz0 xs0 o', ws = [(id, o')] ∧ h id = some (.arr sz0 xs0) ∧ (∀ x, Fall ys fs x → g.fp id x) ∧ (∀ x, F' x → g.fp id x ∧ ¬ Fall ys fs x) ∧
    ∀ o1, o' = some o1 → ∃ xs', o1 = .arr sz0 xs' ∧ Cl w g.I (g.v id) (.sl .own sz0 xs') F'

theorem take_rel (m : Mem cx s.heap s.ep g w) {v : Value} {x : AV} {flat : Bool} {sz : Nat} {ys : List (List AV)} {ws : List (Nat × Option AO)} (hr : SRel cx.num w cx.R g s.heap s.ep v x) (h : takeRows s.heap s.ep flat x = some (sz, ys, ws)) :
    ∃ us fs F', Src cx s.heap g w v sz ys ws us fs F' := by
  cases flat with
  | true =>
    simp only [takeRows] at h
    cases hc : content s.heap s.ep x with
    | none => rw [hc] at h; cases h
    | some p =>
      obtain ⟨sz1, xs⟩ := p
      rw [hc] at h
      simp only at h
      split at h
      case isFalse => cases h
      rename_i hp
      simp only [Option.some.injEq, Prod.mk.injEq] at h
      obtain ⟨rfl, rfl, rfl⟩ := h
      rcases content_cells m hr hc with ⟨rfl, h5⟩ | ⟨b, off, cap, us, h5, hrow, hcell⟩
      · exact ⟨_, _, fun _ => False, .inl ⟨rfl, h5⟩, Rows.plain (by simp) rfl, .inl ⟨rfl, fun x ⟨_, _, _, _, hf⟩ => hf⟩⟩
      · refine ⟨_, _, fun _ => False, .inr ⟨b, off, cap, h5, fun i j c hcc => ?_⟩, Rows.plain hrow hp, .inl ⟨rfl, fun x ⟨_, _, _, _, hf⟩ => hf⟩⟩
        obtain ⟨h6, h7⟩ := hcell i j c hcc
        rw [h6, hcc, h7.plain (rowsPlain_cell hp hcc)]
        rfl
  | false =>
    cases x <;> unfold takeRows at h <;> try (cases h; done)
    · rename_i md sz' xs
      cases md <;> cases xs <;> simp only [reduceCtorEq, Option.some.injEq, Prod.mk.injEq] at h
      obtain ⟨rfl, rfl, rfl⟩ := h
      cases hr with
      | nil => exact ⟨fun _ _ => undef, fun _ _ _ => False, fun _ => False, .inl ⟨rfl, none, 0, rfl⟩, ⟨by simp, fun i j c hc => by simp [cellAt] at hc, fun i j c _ _ _ _ hc => by simp [cellAt] at hc⟩, .inl ⟨rfl, fun x ⟨_, _, _, _, hf⟩ => hf⟩⟩
      | sl _ _ _ _ _ _ _ hown => exact absurd rfl hown
    · rename_i id
      simp only at h
      cases hh : s.heap id with
      | none => rw [hh] at h; cases h
      | some ob =>
        rw [hh] at h
        cases ob <;> simp only [reduceCtorEq, Option.some.injEq, Prod.mk.injEq] at h
        rename_i sz0 xs0
        obtain ⟨rfl, rfl, rfl⟩ := h
        cases hr with
        | ref _ _ _ hu hv =>
          have hv' := hv _ hh
          rcases (m.objs id _ hh).1.rows with ⟨h5, h6, hS⟩ | ⟨b, cap, cur, e', us, fs, h5, hheap, _, _, _, hcell, hrows, hnb, hS⟩
          · subst h6
            exact ⟨fun _ _ => undef, fun _ _ _ => False, fun _ => False, .inl ⟨rfl, none, 0, hv'.trans h5⟩, ⟨by simp, fun i j c hc => by simp [cellAt] at hc, fun i j c _ _ _ _ hc => by simp [cellAt] at hc⟩,
              .inr ⟨id, sz0, [], none, rfl, hh, fun x ⟨_, _, _, _, hf⟩ => hf.elim, fun _ hf => hf.elim, fun _ he => by cases he⟩⟩
          · exact ⟨us, fs, fun _ => False, .inr ⟨b, 0, cap, hv'.trans h5, fun i j c hc => by rw [cell_of_heap hheap, Nat.zero_add]; exact hcell i j c hc⟩, hrows,
              .inr ⟨id, sz0, xs0, none, rfl, hh, fun x hx => (hS x).2 (.inr hx), fun _ hf => hf.elim, fun _ he => by cases he⟩⟩
    · rename_i id lo len
      simp only at h
      cases hh : s.heap id with
      | none => rw [hh] at h; cases h
      | some ob =>
        rw [hh] at h
        cases ob <;> simp only [reduceCtorEq] at h
        rename_i sz0 xs0
        split at h
        case isFalse => cases h
        rename_i hle
        simp only [Option.some.injEq, Prod.mk.injEq] at h
        obtain ⟨rfl, rfl, rfl⟩ := h
        have hlen : (List.take len (List.drop lo xs0)).length = len := by simp; omega
        have hat : ∀ i j c, cellAt (List.take len (List.drop lo xs0)) i j = some c → i < len ∧ cellAt xs0 (lo + i) j = some c := by
          intro i j c hc
          obtain ⟨row, hr1, hr2⟩ := cellAt_some.1 hc
          rw [List.getElem?_take] at hr1
          split at hr1
          · rename_i hi
            exact ⟨hi, cellAt_some.2 ⟨row, by rwa [List.getElem?_drop] at hr1, hr2⟩⟩
          · cases hr1
        cases hr with
        | view _ _ _ _ _ hu hv =>
          obtain ⟨a', cap0, h5, h6, h7⟩ := hv _ _ hh
          rcases (m.objs id _ hh).1.rows with ⟨h8, h9, hS⟩ | ⟨b, cap, cur, e', us, fs, h8, hheap, hcap, hmax, hcur, hcell, hrows, hnb, hS⟩
          · subst h9
            have hl0 : len = 0 := by simp at hle; omega
            have hlo : lo = 0 := by simp at hle; omega
            subst hl0; subst hlo
            refine ⟨fun _ _ => undef, fun _ _ _ => False, g.fp id, .inl ⟨by simp, a', cap0, h5⟩, ⟨by simp, fun i j c hc => by simp [cellAt] at hc, fun i j c _ _ _ _ hc => by simp [cellAt] at hc⟩,
              .inr ⟨id, sz0, [], _, rfl, hh, fun x ⟨_, _, _, _, hf⟩ => hf.elim, fun x hf => ⟨hf, fun ⟨_, _, _, _, hf⟩ => hf⟩, fun o1 he => ?_⟩⟩
            obtain rfl := Option.some.inj he
            exact ⟨[], by simp, (m.objs id _ hh).1⟩
          · refine ⟨fun i j => us (lo + i) j, fun i j => fs (lo + i) j, fun x => g.fp id x ∧ ¬ Fall (List.take len (List.drop lo xs0)) (fun i j => fs (lo + i) j) x, ?_, ?_, ?_⟩
            · by_cases hz : len = 0
              · subst hz; exact .inl ⟨by simp, a', cap0, h5⟩
              · obtain ⟨b', n', c', h9, h10⟩ := h7 hz
                rw [h8] at h9
                simp only [Value.slice.injEq, Option.some.injEq, Addr.mk.injEq, and_true] at h9
                obtain ⟨rfl, _⟩ := h9
                refine .inr ⟨b, lo * sz0, cap0, by rw [hlen, h5, h10], fun i j c hc => ?_⟩
                rw [cell_of_heap hheap, show lo * sz0 + i * sz0 + j = (lo + i) * sz0 + j by rw [Nat.add_mul]]
                exact hcell _ _ _ (hat i j c hc).2
            · refine ⟨fun row hr => hrows.row row (List.mem_of_mem_drop (List.mem_of_mem_take hr)), fun i j c hc => hrows.cl _ _ _ (hat i j c hc).2, fun i j c i' j' c' x hc hc' hf hf' => ?_⟩
              obtain ⟨h11, h12⟩ := hrows.dis _ _ _ _ _ _ x (hat i j c hc).2 (hat i' j' c' hc').2 hf hf'
              exact ⟨by omega, h12⟩
            · refine .inr ⟨id, sz0, xs0, _, rfl, hh, fun x ⟨i, j, c, hc, hf⟩ => (hS x).2 (.inr ⟨_, _, _, (hat i j c hc).2, hf⟩), fun x hx => hx, fun o1 he => ?_⟩
              obtain rfl := Option.some.inj he
              refine ⟨_, rfl, ?_⟩
              have hl' : (List.take lo xs0 ++ (List.replicate len (List.replicate sz0 AV.any) ++ List.drop (lo + len) xs0)).length = xs0.length := by simp; omega
              -- each cell of what is left is as it was, or dead
              have hcl : ∀ i j c, cellAt (List.take lo xs0 ++ (List.replicate len (List.replicate sz0 AV.any) ++ List.drop (lo + len) xs0)) i j = some c →
                  (lo ≤ i ∧ i < lo + len ∧ c = .any ∧ j < sz0) ∨ (¬ (lo ≤ i ∧ i < lo + len) ∧ cellAt xs0 i j = some c) := by
                intro i j c hc
                obtain ⟨row, hr1, hr2⟩ := cellAt_some.1 hc
                rw [List.getElem?_append] at hr1
                have hl1 : (List.take lo xs0).length = lo := by simp; omega
                rw [hl1] at hr1
                by_cases hi : i < lo
                · rw [if_pos hi, List.getElem?_take, if_pos hi] at hr1
                  exact .inr ⟨by omega, cellAt_some.2 ⟨row, hr1, hr2⟩⟩
                · rw [if_neg hi, List.getElem?_append, List.length_replicate] at hr1
                  by_cases hi2 : i - lo < len
                  · rw [if_pos hi2, List.getElem?_replicate, if_pos hi2] at hr1
                    obtain rfl := Option.some.inj hr1
                    rw [List.getElem?_replicate] at hr2
                    split at hr2
                    · exact .inl ⟨by omega, by omega, (Option.some.inj hr2).symm, by assumption⟩
                    · cases hr2
                  · rw [if_neg hi2, List.getElem?_drop] at hr1
                    refine .inr ⟨by omega, cellAt_some.2 ⟨row, ?_, hr2⟩⟩
                    rw [show lo + len + (i - lo - len) = i by omega] at hr1
                    exact hr1
              have hdead : ∀ i j, lo ≤ i → i < lo + len → j < sz0 → ∃ c0, cellAt xs0 i j = some c0 := fun i j h1 h2 h3 => cellAt_of_lt hrows.row (by omega) h3
              refine (Rows.own (w1 := w) (xs := List.take lo xs0 ++ (List.replicate len (List.replicate sz0 AV.any) ++ List.drop (lo + len) xs0)) (us := us) (fs := fun i j x => ¬ (lo ≤ i ∧ i < lo + len) ∧ fs i j x) ⟨?_, ?_, ?_⟩ hheap (by omega) hmax hcur ?_ (Same.refl _ _) (Same.refl _ _) ?_).blocks ?_ |> fun hfin => by rw [h8, ← hl']; exact hfin
              · intro row hr
                rcases List.mem_append.1 hr with hr | hr
                · exact hrows.row row (List.mem_of_mem_take hr)
                · rcases List.mem_append.1 hr with hr | hr
                  · rw [List.eq_of_mem_replicate hr]; simp
                  · exact hrows.row row (List.mem_of_mem_drop hr)
              · intro i j c hc
                rcases hcl i j c hc with ⟨h1, h2, rfl, h3⟩ | ⟨h1, h2⟩
                · obtain ⟨c0, hc0⟩ := hdead i j h1 h2 h3
                  exact .any _ _ (hrows.cl _ _ _ hc0).one (fun x hx => hx.1 ⟨h1, h2⟩)
                · exact (hrows.cl _ _ _ h2).blocks (fun x => ⟨fun hx => hx.2, fun hx => ⟨h1, hx⟩⟩)
              · intro i j c i' j' c' x hc hc' hf hf'
                rcases hcl i j c hc with ⟨h1, h2, _⟩ | ⟨_, h2⟩
                · exact absurd ⟨h1, h2⟩ hf.1
                · rcases hcl i' j' c' hc' with ⟨h3, h4, _⟩ | ⟨_, h4⟩
                  · exact absurd ⟨h3, h4⟩ hf'.1
                  · exact hrows.dis _ _ _ _ _ _ x h2 h4 hf.2 hf'.2
              · intro i j c hc
                rcases hcl i j c hc with ⟨h1, h2, rfl, h3⟩ | ⟨_, h2⟩
                · obtain ⟨c0, hc0⟩ := hdead i j h1 h2 h3
                  exact hcell _ _ _ hc0
                · exact hcell _ _ _ h2
              · rintro ⟨i, j, c, hc, hf⟩
                rcases hcl i j c hc with ⟨h1, h2, _⟩ | ⟨_, h2⟩
                · exact hf.1 ⟨h1, h2⟩
                · exact hnb ⟨_, _, _, h2, hf.2⟩
              · intro x
                constructor
                · rintro ⟨hx, hn⟩
                  rcases (hS x).1 hx with rfl | ⟨i, j, c, hc, hf⟩
                  · exact .inl rfl
                  · by_cases hi : lo ≤ i ∧ i < lo + len
                    · refine absurd ⟨i - lo, j, c, ?_, ?_⟩ hn
                      · obtain ⟨row, hr1, hr2⟩ := cellAt_some.1 hc
                        refine cellAt_some.2 ⟨row, ?_, hr2⟩
                        rw [List.getElem?_take, if_pos (by omega), List.getElem?_drop, show lo + (i - lo) = i by omega]
                        exact hr1
                      · show fs (lo + (i - lo)) j x
                        rw [show lo + (i - lo) = i by omega]; exact hf
                    · refine .inr ⟨i, j, c, ?_, hi, hf⟩
                      obtain ⟨row, hr1, hr2⟩ := cellAt_some.1 hc
                      refine cellAt_some.2 ⟨row, ?_, hr2⟩
                      have hl1 : (List.take lo xs0).length = lo := by simp; omega
                      rw [List.getElem?_append, hl1]
                      by_cases h1 : i < lo
                      · rw [if_pos h1, List.getElem?_take, if_pos h1]; exact hr1
                      · rw [if_neg h1, List.getElem?_append, List.length_replicate, if_neg (by omega), List.getElem?_drop, show lo + len + (i - lo - len) = i by omega]
                        exact hr1
                · rintro (rfl | ⟨i, j, c, hc, hf⟩)
                  · exact ⟨(hS x).2 (.inl rfl), fun ⟨i, j, c, hc, hf⟩ => hnb ⟨_, _, _, (hat i j c hc).2, hf⟩⟩
                  · rcases hcl i j c hc with ⟨h1, h2, _⟩ | ⟨_, h2⟩
                    · exact absurd ⟨h1, h2⟩ hf.1
                    · refine ⟨(hS x).2 (.inr ⟨_, _, _, h2, hf.2⟩), fun ⟨i', j', c', hc', hf'⟩ => ?_⟩
                      obtain ⟨h3, h4⟩ := hat i' j' c' hc'
                      obtain ⟨h5', _⟩ := hrows.dis _ _ _ _ _ _ x h2 h4 hf.2 hf'
                      exact hf.1 ⟨by omega, by omega⟩
end

theorem getElem?_pre {n k : Nat} {A B C : List Value} (hA : A.length = n) (hk : k < n) : (A ++ (B ++ C))[k]? = A[k]? := List.getElem?_append_left (by omega)
theorem getElem?_mid {n m k : Nat} {A B C : List Value} (hA : A.length = n) (hB : B.length = m) (hk : k < m) : (A ++ (B ++ C))[n + k]? = B[k]? := by
  rw [List.getElem?_append_right (by omega), List.getElem?_append_left (by omega)]
  congr 1
  omega

theorem append_run {P : Program} {w : World} {I : Nat → Prop} {t ty e : TypeId} {i0 : TypeInfo} {z : Value} {sz : Nat} (ht : P.underlying t = some (.slice e)) (hi : P.info? e = some i0) (hz : i0.zero = some z) (hzs : z.cells.size = i0.size) (hsz : i0.size = sz)
    {v1 v2 : Value} {xs ys : List (List AV)} {S0 : Nat → Prop} {us : Nat → Nat → Value} {fs : Nat → Nat → Nat → Prop} (hbase : Cl w I v1 (.sl .own sz xs) S0)
    (hat : (ys = [] ∧ ∃ ad cap, v2 = .slice ad 0 cap) ∨ ∃ (b off cap : Nat), v2 = .slice (some ⟨b, off, none⟩) ys.length cap ∧ ∀ i j c, cellAt ys i j = some c → w.cell? ⟨b, off + i * sz + j, none⟩ = some (us i j))
    (hrows : ys = [] ∨ Rows w I sz ys us fs) (hys : ys = [] → ∀ x, ¬ Fall ys fs x) (hdis : ∀ x, S0 x → ¬ Fall ys fs x) (hIS : ∀ x, S0 x → ¬ I x) (hI : ∀ x, I x → x < w.heap.size) (hlt : ∀ x, Fall ys fs x → x < w.heap.size)
    (hb1 : (xs.length + ys.length) * i0.bytes ≤ 140737488355328) (hb2 : xs.length + ys.length ≤ 140737488355328) :
    ∃ v' w' F, (Builtin.append_ #[t, t] ty #[v1, v2]).run P w = .ok v' w' ∧ Cl w' I v' (.sl .own sz (xs ++ ys)) F ∧ (∀ x, F x → (w.heap.size ≤ x ∧ x < w'.heap.size) ∨ S0 x ∨ Fall ys fs x) ∧
      w'.os = w.os ∧ w'.tape = w.tape ∧ w'.output = w.output ∧ w.heap.size ≤ w'.heap.size ∧ (∀ k, k < w.heap.size → ¬ S0 k → w'.heap[k]? = w.heap[k]?) := by
  have hmx : xs.length + ys.length ≤ maxLen := by unfold maxLen; omega
  by_cases hy0 : ys = []
  · -- nothing is appended
    have h2 : ∃ ad cap, v2 = .slice ad 0 cap := by
      rcases hat with ⟨_, h⟩ | ⟨b, off, cap, h, _⟩
      · exact h
      · rw [hy0] at h; exact ⟨_, _, h⟩
    obtain ⟨ad, cap2, rfl⟩ := h2
    subst hy0
    rw [List.append_nil]
    rcases hbase.rows with ⟨rfl, rfl, hS⟩ | ⟨b, cap, cur, e', us', fs', rfl, hheap, hcap, _⟩
    · exact ⟨_, w, S0, run_append_zero ht hi none ad 0 0 cap2 (Nat.le_refl _), hbase, fun x hx => .inr (.inl hx), rfl, rfl, rfl, Nat.le_refl _, fun _ _ _ => rfl⟩
    · exact ⟨_, w, S0, run_append_zero ht hi _ ad _ cap cap2 hcap, hbase, fun x hx => .inr (.inl hx), rfl, rfl, rfl, Nat.le_refl _, fun _ _ _ => rfl⟩
  have hm0 : 0 < ys.length := List.length_pos_iff.2 hy0
  have hr := hrows.resolve_left hy0
  obtain ⟨b2, off2, cap2, rfl, hcell2⟩ := hat.resolve_left (fun h => hy0 h.1)
  have hnl : (flatVals ys.length sz us).length = ys.length * i0.size := by rw [flatVals_length, hsz]
  have hkk : ∀ k, k < ys.length * sz → k / sz < ys.length ∧ k % sz < sz ∧ k / sz * sz + k % sz = k := by
    intro k hk
    have hpos : 0 < sz := by
      rcases Nat.eq_zero_or_pos sz with h | h
      · rw [h] at hk; simp at hk
      · exact h
    exact ⟨(Nat.div_lt_iff_lt_mul hpos).2 hk, Nat.mod_lt _ hpos, by rw [Nat.mul_comm]; exact Nat.div_add_mod k sz⟩
  have hnews : ∀ (j : Nat) (u : Value), (flatVals ys.length sz us)[j]? = some u → w.cell? ((⟨b2, off2, none⟩ : Addr).add j) = some u := by
    intro j u hu
    have hj : j < ys.length * sz := by have := (List.getElem?_eq_some_iff.1 hu).1; rwa [flatVals_length] at this
    rw [flatVals_get hj] at hu
    obtain ⟨h1, h2, h3⟩ := hkk j hj
    obtain ⟨c, hc⟩ := cellAt_of_lt hr.row h1 h2
    rw [add_none, ← Option.some.inj hu, ← hcell2 _ _ _ hc, Nat.add_assoc, h3]
  have hone : ∀ u ∈ flatVals ys.length sz us, u.oneCell' = true := by
    intro u hu
    obtain ⟨j, hj⟩ := List.getElem?_of_mem hu
    have hj' : j < ys.length * sz := by have := (List.getElem?_eq_some_iff.1 hj).1; rwa [flatVals_length] at this
    rw [flatVals_get hj'] at hj
    obtain ⟨h1, h2, h3⟩ := hkk j hj'
    obtain ⟨c, hc⟩ := cellAt_of_lt hr.row h1 h2
    rw [← Option.some.inj hj]
    exact (hr.cl _ _ _ hc).one
  -- a new array
  have fresh : ∀ (us0 : Nat → Nat → Value) (fs0 : Nat → Nat → Nat → Prop) (old : Nat), Rows w I sz xs us0 fs0 → (∀ x, Fall xs fs0 x → S0 x) → old < xs.length + ys.length →
      ∀ (vr : Value) (w1 : World), vr = .slice (some ⟨w.heap.size, 0, none⟩) (xs.length + ys.length) (grownCap w (xs.length + ys.length) old e) →
      Pushed w w1 (.cells (((flatVals xs.length sz us0).toArray ++ (flatVals ys.length sz us).toArray) ++ Builtin.zeroCells z.cells (grownCap w (xs.length + ys.length) old e - (xs.length + ys.length))) e) →
      ∃ F, Cl w1 I vr (.sl .own sz (xs ++ ys)) F ∧ (∀ x, F x → (w.heap.size ≤ x ∧ x < w1.heap.size) ∨ S0 x ∨ Fall ys fs x) := by
    intro us0 fs0 old r0 hF0 hold vr w1 hvr p
    have hge := grownCap_ge w (xs.length + ys.length) old e
    have rr := r0.append hr (fun x hx => hdis x (hF0 x hx))
    have hfall : ∀ x, Fall (xs ++ ys) (fun i j => if i < xs.length then fs0 i j else fs (i - xs.length) j) x → S0 x ∨ Fall ys fs x := fun x hx => (Fall.append hx).imp (hF0 x) id
    have hlt' : ∀ x, Fall (xs ++ ys) (fun i j => if i < xs.length then fs0 i j else fs (i - xs.length) j) x → x < w.heap.size := fun x hx => (hfall x hx).elim (hbase.lt x) (hlt x)
    have hcl := rr.own (w1 := w1) (b := w.heap.size) (cap := grownCap w (xs.length + ys.length) old e) p.new (by rw [List.length_append]; exact hge) (grownCap_le_maxLen w _ old e hmx)
      (by simp only [Array.size_append, List.size_toArray, size_zeroCells, flatVals_length, hzs, hsz, ← Nat.add_mul]; exact Nat.le_of_eq (by congr 1; omega))
      (by
        intro i j c hc
        have hj := cellAt_col rr.row hc
        have hi := cellAt_lt hc
        rw [List.length_append] at hi
        rw [← Array.getElem?_toList]
        simp only [Array.toList_append, List.append_assoc]
        by_cases h1 : i < xs.length
        · rw [if_pos h1, getElem?_pre (n := xs.length * sz) (by simp [flatVals_length]) (by
            have : (i + 1) * sz ≤ xs.length * sz := Nat.mul_le_mul_right _ h1
            rw [Nat.add_mul] at this; omega)]
          exact flatVals_at h1 hj
        · rw [if_neg h1, show i * sz + j = xs.length * sz + ((i - xs.length) * sz + j) by rw [← Nat.add_assoc, ← Nat.add_mul]; congr 2; omega]
          rw [getElem?_mid (n := xs.length * sz) (m := ys.length * sz) (by simp [flatVals_length]) (by simp [flatVals_length]) (by
            have : ((i - xs.length) + 1) * sz ≤ ys.length * sz := Nat.mul_le_mul_right _ (by omega)
            rw [Nat.add_mul] at this; omega)]
          exact flatVals_at (by omega) hj)
      (fun x hx => p.old (hlt' x hx)) (fun x hx => p.old (hI x hx)) (fun hx => by have := hlt' _ hx; omega)
    rw [List.length_append] at hcl
    refine ⟨_, by rw [hvr]; exact hcl, fun x hx => ?_⟩
    rcases hx with rfl | hx
    · exact .inl ⟨Nat.le_refl _, by rw [p.size]; omega⟩
    · exact .inr (hfall x hx)
  rcases hbase.rows with ⟨rfl, rfl, hS⟩ | ⟨b, cap, cur, e', us0, fs0, rfl, hheap, hcap, hmax, hcur, hcell, r0, hnb, hS⟩
  · -- out of nothing
    have hrun := run_append_nil (P := P) w t ty e i0 z ht hi hz ⟨b2, off2, none⟩ ys.length cap2 _ hnl hnews hm0 (by simp at hb2; omega) (by simp at hb1; omega)
    obtain ⟨F, h1, h2⟩ := fresh (fun _ _ => undef) (fun _ _ _ => False) 0 ⟨by simp, fun i j c hc => by simp [cellAt] at hc, fun i j c _ _ _ _ hc => by simp [cellAt] at hc⟩ (fun x ⟨_, _, _, _, hf⟩ => hf.elim) (by simpa using hm0)
      (.slice (some ⟨w.heap.size, 0, none⟩) ys.length (grownCap w ys.length 0 e)) (w.drew.alloc (.cells ((flatVals ys.length sz us).toArray ++ Builtin.zeroCells z.cells (grownCap w ys.length 0 e - ys.length)) e)) (by simp)
      (by simpa [flatVals] using Pushed.drewAlloc w (.cells ((flatVals ys.length sz us).toArray ++ Builtin.zeroCells z.cells (grownCap w ys.length 0 e - ys.length)) e))
    refine ⟨_, _, F, hrun, h1, h2, rfl, rfl, rfl, by rw [(Pushed.drewAlloc w _).size]; omega, fun k hk _ => ?_⟩
    exact (Pushed.drewAlloc w _).old hk
  · have hol : (flatVals xs.length sz us0).length = xs.length * i0.size := by rw [flatVals_length, hsz]
    have holds : ∀ (j : Nat) (u : Value), (flatVals xs.length sz us0)[j]? = some u → w.cell? ((⟨b, 0, none⟩ : Addr).add j) = some u := by
      intro j u hu
      have hj : j < xs.length * sz := by have := (List.getElem?_eq_some_iff.1 hu).1; rwa [flatVals_length] at this
      rw [flatVals_get hj] at hu
      have hpos : 0 < sz := by
        rcases Nat.eq_zero_or_pos sz with h | h
        · rw [h] at hj; simp at hj
        · exact h
      have h1 : j / sz < xs.length := (Nat.div_lt_iff_lt_mul hpos).2 hj
      have h3 : j / sz * sz + j % sz = j := by rw [Nat.mul_comm]; exact Nat.div_add_mod j sz
      obtain ⟨c, hc⟩ := cellAt_of_lt r0.row h1 (Nat.mod_lt j hpos)
      rw [add_none, Nat.zero_add, cell_of_heap hheap, ← Option.some.inj hu, ← hcell _ _ _ hc, h3]
    by_cases hroom : xs.length + ys.length ≤ cap
    · -- in place
      have hfit : xs.length * i0.size + (flatVals ys.length sz us).length ≤ cur.size := by
        rw [hnl, hsz, ← Nat.add_mul]
        exact Nat.le_trans (Nat.mul_le_mul_right _ hroom) hcur
      have hrun := run_append_room' (ty := ty) ht hi e' b xs.length cap cur hheap ⟨b2, off2, none⟩ ys.length cap2 _ hnl hnews hone hroom hfit
      have hd0 : ∀ x, Fall xs fs0 x → S0 x := fun x hx => (hS x).2 (.inr hx)
      have rr := r0.append hr (fun x hx => hdis x (hd0 x hx))
      have hSb : S0 b := (hS b).2 (.inl rfl)
      have hother : ∀ k, k ≠ b → ∀ cs, (w.setRow b cs).heap[k]? = w.heap[k]? := fun k hk cs => setRow_other w b k cs hk
      have hnot : ¬ Fall (xs ++ ys) (fun i j => if i < xs.length then fs0 i j else fs (i - xs.length) j) b := by
        intro hx
        rcases Fall.append hx with h1 | h1
        · exact hnb h1
        · exact hdis b hSb h1
      have hcl := rr.own (w1 := w.setRow b _) (b := b) (cap := cap) (setRow_heap w b cur (cur.toList.take (xs.length * i0.size) ++ flatVals ys.length sz us ++ cur.toList.drop (xs.length * i0.size + (flatVals ys.length sz us).length)).toArray e' (0, 0) hheap)
        (by rw [List.length_append]; exact hroom) hmax (by
          refine Nat.le_trans hcur ?_
          simp only [List.size_toArray, List.length_append, List.length_take, List.length_drop, Array.length_toList]
          rw [Nat.min_eq_left (by omega)]
          omega)
        (by
          intro i j c hc
          have hj := cellAt_col rr.row hc
          have hi := cellAt_lt hc
          rw [List.length_append] at hi
          have htl : (cur.toList.take (xs.length * i0.size)).length = xs.length * sz := by
            have hcl : cur.toList.length = cur.size := Array.length_toList
            rw [List.length_take, hcl, hsz]
            have : xs.length * sz ≤ cap * sz := Nat.mul_le_mul_right _ hcap
            omega
          rw [List.getElem?_toArray, List.append_assoc]
          by_cases h1 : i < xs.length
          · have hlt2 : i * sz + j < xs.length * sz := by
              have : (i + 1) * sz ≤ xs.length * sz := Nat.mul_le_mul_right _ h1
              rw [Nat.add_mul] at this; omega
            rw [if_pos h1, getElem?_pre htl hlt2, List.getElem?_take, hsz, if_pos hlt2, Array.getElem?_toList]
            rw [cellAt_append, if_pos h1] at hc
            exact hcell _ _ _ hc
          · rw [if_neg h1, show i * sz + j = xs.length * sz + ((i - xs.length) * sz + j) by rw [← Nat.add_assoc, ← Nat.add_mul]; congr 2; omega]
            rw [getElem?_mid htl (m := ys.length * sz) (by simp [flatVals_length]) (by
              have : ((i - xs.length) + 1) * sz ≤ ys.length * sz := Nat.mul_le_mul_right _ (by omega)
              rw [Nat.add_mul] at this; omega)]
            exact flatVals_at (by omega) hj)
        (fun x hx => hother x (fun e => hnot (e ▸ hx)) _) (fun x hx => hother x (fun e => hIS b hSb (e ▸ hx)) _) hnot
      rw [List.length_append] at hcl
      refine ⟨_, _, _, hrun, hcl, fun x hx => ?_, rfl, rfl, rfl, ?_, fun k hk hk2 => hother k (fun e => hk2 (e ▸ hSb)) _⟩
      · rcases hx with rfl | hx
        · exact .inr (.inl hSb)
        · exact .inr ((Fall.append hx).imp (hd0 x) id)
      · simp [World.setRow]
    · -- it grows
      have hrun := run_append_grow (P := P) w t ty e i0 z ht hi hz ⟨b, 0, none⟩ xs.length cap _ hol holds ⟨b2, off2, none⟩ ys.length cap2 _ hnl hnews (by omega) (by omega) (growslice_fits (by omega) hb1)
      obtain ⟨F, h1, h2⟩ := fresh us0 fs0 cap r0 (fun x hx => (hS x).2 (.inr hx)) (by omega) _ _ rfl (Pushed.drewAlloc w _)
      exact ⟨_, _, F, hrun, h1, h2, rfl, rfl, rfl, by rw [(Pushed.drewAlloc w _).size]; omega, fun k hk _ => (Pushed.drewAlloc w _).old hk⟩

section
variable {cx : Cx} {s : St} {g : Gh} {a : Act} {w : World} {o : Oper} {key : Nat} {out : Out} {cl : Callee}

/-- What an append leaves: the new array, the old one gone, what is left of the one that rows were taken from. -/
theorem done_append_at (m : Mem cx s.heap s.ep g w) (hk : ¬ g.used key) {v' : Value} {w' : World} {sz : Nat} {zs : List (List AV)} {F F' : Nat → Prop} {base : List Nat} {src : List (Nat × Option AO)}
    (hrun : (execOp a.eval o).run cx.P w = .ok (.value v') w') (hcl : Cl w' g.I v' (.sl .own sz zs) F)
    (hbase : base = [] ∨ ∃ id sz0 xs0, base = [id] ∧ s.heap id = some (.arr sz0 xs0)) (hsrc : src = [] ∨ ∃ id sz0 xs0 o', src = [(id, o')] ∧ s.heap id = some (.arr sz0 xs0) ∧ (∀ i ∈ base, i ≠ id) ∧ (∀ x, F' x → g.fp id x ∧ ¬ F x) ∧
      ∀ o1, o' = some o1 → ∃ xs', o1 = .arr sz0 xs' ∧ Cl w g.I (g.v id) (.sl .own sz0 xs') F')
    (hF : ∀ x, F x → (w.heap.size ≤ x ∧ x < w'.heap.size) ∨ ∃ id o1, (id ∈ base ∨ id ∈ src.map (·.1)) ∧ s.heap id = some o1 ∧ g.fp id x)
    (hos : w'.os = w.os) (htape : w'.tape = w.tape) (hout : w'.output = w.output) (hsize : w.heap.size ≤ w'.heap.size) (hsame : ∀ k, k < w.heap.size → (∀ id o1, id ∈ base → s.heap id = some o1 → ¬ g.fp id k) → w'.heap[k]? = w.heap[k]?)
    (h : out = ⟨.ref key, (key, some (.arr sz zs)) :: (kill base ++ src), true⟩) : Done cx s g a w o key out := by
  subst h
  -- memory behind the operation, number by number
  have hheap : ∀ id, wsOn s.heap ((key, some (.arr sz zs)) :: (kill base ++ src)) id = match src with
      | [(j, o')] => if id = j then o' else if id ∈ base then none else if id = key then some (.arr sz zs) else s.heap id
      | _ => if id ∈ base then none else if id = key then some (.arr sz zs) else s.heap id := by
    intro id
    have happ : ∀ (h : Nat → Option AO) (l : List (Nat × Option AO)), wsOn h (kill base ++ l) = wsOn (wsOn h (kill base)) l := by
      intro h l
      rcases hbase with rfl | ⟨id, _, _, rfl, _⟩ <;> simp [kill, wsOn]
    rcases hsrc with rfl | ⟨j, sz0, xs0, o', rfl, _⟩
    · rw [wsOn, happ, wsOn, wsOn_kill]; rfl
    · rw [wsOn, happ]
      simp only [wsOn, upd, wsOn_kill]
  have hkb : key ∉ base := by
    rcases hbase with rfl | ⟨id, sz0, xs0, rfl, hid⟩
    · simp
    · intro hm
      rw [List.mem_singleton.1 hm] at hk
      exact hk (m.used _ _ hid)
  have hks : ∀ j o', src = [(j, o')] → key ≠ j := by
    intro j o' he e
    rcases hsrc with rfl | ⟨j2, sz0, xs0, o2, rfl, hj, _⟩
    · cases he
    · simp only [List.cons.injEq, Prod.mk.injEq, and_true] at he
      exact hk (m.used _ _ (e ▸ he.1 ▸ hj))
  have hmem : ∀ id, id ∈ src.map (·.1) ↔ ∃ o', src = [(id, o')] := by
    intro id
    rcases hsrc with rfl | ⟨j2, sz0, xs0, o2, rfl, hj, _⟩
    · simp
    · simp only [List.map_cons, List.map_nil, List.mem_singleton, List.cons.injEq, Prod.mk.injEq, and_true]
      exact ⟨fun h => ⟨o2, h.symm, rfl⟩, fun ⟨_, h, _⟩ => h.symm⟩
  have hold : ∀ id, id ∈ base ∨ id ∈ src.map (·.1) → ∃ sz0 xs0, s.heap id = some (.arr sz0 xs0) := by
    rintro id (h1 | h1)
    · rcases hbase with rfl | ⟨id', sz0, xs0, rfl, hid⟩
      · simp at h1
      · rw [List.mem_singleton.1 h1]; exact ⟨_, _, hid⟩
    · obtain ⟨o', ho'⟩ := (hmem id).1 h1
      rcases hsrc with rfl | ⟨j2, sz0, xs0, o2, rfl, hj, _⟩
      · cases ho'
      · simp only [List.cons.injEq, Prod.mk.injEq, and_true] at ho'
        exact ⟨_, _, ho'.1 ▸ hj⟩
  -- who lives on
  have hcases : ∀ id o1, wsOn s.heap ((key, some (.arr sz zs)) :: (kill base ++ src)) id = some o1 → (id = key ∧ o1 = .arr sz zs) ∨ (src = [(id, some o1)] ∧ id ≠ key) ∨ (id ≠ key ∧ id ∉ base ∧ id ∉ src.map (·.1) ∧ s.heap id = some o1) := by
    intro id o1 ho
    rw [hheap] at ho
    rcases hsrc with rfl | ⟨j, sz0, xs0, o', rfl, hj, _⟩
    · simp only at ho
      by_cases h1 : id ∈ base
      · simp [h1] at ho
      · by_cases h2 : id = key
        · simp only [h1, h2, if_false, if_true] at ho; rw [if_neg hkb] at ho; exact .inl ⟨h2, (Option.some.inj ho).symm⟩
        · simp only [h1, h2, if_false] at ho; exact .inr (.inr ⟨h2, h1, by simp, ho⟩)
    · simp only at ho
      by_cases h0 : id = j
      · subst h0
        simp only [if_true] at ho
        exact .inr (.inl ⟨by rw [ho], fun e => hks _ _ rfl e.symm⟩)
      · by_cases h1 : id ∈ base
        · simp [h0, h1] at ho
        · by_cases h2 : id = key
          · simp only [h0, h1, h2, if_false, if_true] at ho
            rw [if_neg (hks _ _ rfl), if_neg hkb] at ho
            exact .inl ⟨h2, (Option.some.inj ho).symm⟩
          · simp only [h0, h1, h2, if_false] at ho; exact .inr (.inr ⟨h2, h1, by simp; exact h0, ho⟩)
  let g' : Gh := ⟨upd g.v key v', fun j => if j = key then F else if j ∈ src.map (·.1) then F' else g.fp j, g.I, fun b => g.N b ∨ (w.heap.size ≤ b ∧ b < w'.heap.size), fun id => g.used id ∨ id = key⟩
  have hsrc' : ∀ id o1, src = [(id, some o1)] → ∃ sz0 xs0 xs', s.heap id = some (.arr sz0 xs0) ∧ (∀ i ∈ base, i ≠ id) ∧ (∀ x, F' x → g.fp id x ∧ ¬ F x) ∧ o1 = .arr sz0 xs' ∧ Cl w g.I (g.v id) (.sl .own sz0 xs') F' := by
    intro id o1 he
    rcases hsrc with rfl | ⟨j, sz0, xs0, o', rfl, hj, hb, hF', hc⟩
    · cases he
    · simp only [List.cons.injEq, Prod.mk.injEq, and_true] at he
      obtain ⟨rfl, rfl⟩ := he
      obtain ⟨xs', h1, h2⟩ := hc o1 rfl
      exact ⟨sz0, xs0, xs', hj, hb, hF', h1, h2⟩
  have t : Touch cx (fun id => id = key ∨ id ∈ base ∨ id ∈ src.map (·.1)) s.heap s.ep g w (wsOn s.heap ((key, some (.arr sz zs)) :: (kill base ++ src))) (s.ep + 1) g' w' := by
    refine ⟨hos, htape, hout, hsize, Nat.le_succ _, ?_, ?_, fun _ h => .inl h, ?_, ?_, ?_, ?_, fun _ h => h, fun _ h => .inl h, fun b hb => .inl (m.I_N b hb), fun _ h => .inl h, fun b hb => hb, fun he => absurd he (by omega)⟩
    · intro id hT
      have h1 : id ≠ key := fun e => hT (.inl e)
      have h2 : id ∉ base := fun e => hT (.inr (.inl e))
      have h3 : id ∉ src.map (·.1) := fun e => hT (.inr (.inr e))
      refine ⟨?_, fun _ => ⟨by simp [g', upd, h1], by simp only [g', h1, if_false]; rw [if_neg h3]⟩⟩
      rw [hheap]
      rcases hsrc with rfl | ⟨j, sz0, xs0, o', rfl, _⟩
      · simp [h1, h2]
      · simp only [List.map_cons, List.map_nil, List.mem_singleton] at h3
        simp [h1, h2, h3]
    · intro b hb hO
      exact hsame b hb (fun id o1 hid ho hf => hO ⟨id, o1, .inr (.inl hid), ho, hf⟩)
    · intro id o1 hT ho
      rcases hcases id o1 ho with ⟨h1, _⟩ | ⟨h1, _⟩ | ⟨h1, h2, h3, _⟩
      · exact .inr h1
      · obtain ⟨sz0, xs0, xs', hj, _⟩ := hsrc' id o1 h1
        exact .inl (m.used _ _ hj)
      · rcases hT with h | h | h
        · exact absurd h h1
        · exact absurd h h2
        · exact absurd h h3
    · intro id o1 hT hu ho
      rcases hcases id o1 ho with ⟨h1, _⟩ | ⟨h1, hne⟩ | ⟨h1, h2, h3, _⟩
      · exact absurd (h1 ▸ hu) hk
      · obtain ⟨sz0, xs0, xs', hj, _, _, rfl, _⟩ := hsrc' id o1 h1
        exact ⟨_, hj, rfl, by simp [g', upd, hne]⟩
      · rcases hT with h | h | h
        · exact absurd h h1
        · exact absurd h h2
        · exact absurd h h3
    · intro id o1 b hT ho hf
      rcases hcases id o1 ho with ⟨h1, _⟩ | ⟨h1, hne⟩ | ⟨h1, h2, h3, _⟩
      · have hf' : F b := by simpa [g', h1] using hf
        rcases hF b hf' with h4 | ⟨id0, o0, h4, h5, h6⟩
        · exact ⟨.inl h4.1, fun hI => by have := m.I_lt b hI; omega⟩
        · exact ⟨.inr ⟨id0, o0, .inr h4, h5, h6⟩, (m.mine id0 o0 b h5 h6).2⟩
      · obtain ⟨sz0, xs0, xs', hj, _, hF', _⟩ := hsrc' id o1 h1
        have hin : id ∈ src.map (·.1) := by rw [h1]; simp
        have hf' : F' b := by simp only [g', hne, if_false] at hf; rw [if_pos hin] at hf; exact hf
        exact ⟨.inr ⟨id, _, .inr (.inr hin), hj, (hF' b hf').1⟩, (m.mine id _ b hj (hF' b hf').1).2⟩
      · rcases hT with h | h | h
        · exact absurd h h1
        · exact absurd h h2
        · exact absurd h h3
    · intro id id' o1 o2 b hT hT' ho ho' hf hf'
      have dead : ∀ i, (i = key ∨ i ∈ base ∨ i ∈ src.map (·.1)) → i ≠ key → i ∉ base → i ∉ src.map (·.1) → False := fun i h h1 h2 h3 => h.elim h1 (fun h => h.elim h2 h3)
      rcases hcases id o1 ho with ⟨h1, _⟩ | ⟨h1, hne⟩ | ⟨h1, h2, h3, _⟩
      · rcases hcases id' o2 ho' with ⟨h1', _⟩ | ⟨h1', hne'⟩ | ⟨h1', h2', h3', _⟩
        · exact h1.trans h1'.symm
        · obtain ⟨sz0, xs0, xs', hj, _, hF', _⟩ := hsrc' id' o2 h1'
          have hin : id' ∈ src.map (·.1) := by rw [h1']; simp
          have hfF : F b := by simpa [g', h1] using hf
          have hfF' : F' b := by simp only [g', hne', if_false] at hf'; rw [if_pos hin] at hf'; exact hf'
          exact absurd hfF (hF' b hfF').2
        · exact (dead id' hT' h1' h2' h3').elim
      · rcases hcases id' o2 ho' with ⟨h1', _⟩ | ⟨h1', hne'⟩ | ⟨h1', h2', h3', _⟩
        · obtain ⟨sz0, xs0, xs', hj, _, hF', _⟩ := hsrc' id o1 h1
          have hin : id ∈ src.map (·.1) := by rw [h1]; simp
          have hfF : F b := by simpa [g', h1'] using hf'
          have hfF' : F' b := by simp only [g', hne, if_false] at hf; rw [if_pos hin] at hf; exact hf
          exact absurd hfF (hF' b hfF').2
        · rw [h1] at h1'
          simp only [List.cons.injEq, Prod.mk.injEq, and_true] at h1'
          exact h1'.1
        · exact (dead id' hT' h1' h2' h3').elim
      · exact (dead id hT h1 h2 h3).elim
  have k := t.keeps m
  have hFN : ∀ x, F x → g'.N x := by
    intro x hx
    rcases hF x hx with h4 | ⟨id0, o0, h4, h5, h6⟩
    · exact .inr h4
    · obtain ⟨sz0, xs0, h7⟩ := hold id0 h4
      exact .inl ((m.objs id0 _ h7).2 x h6)
  refine ⟨_, v', w', g', hrun, .inl rfl, k, t.mem m (fun id o1 hT ho => ?_), ?_, ?_⟩
  · rcases hcases id o1 ho with ⟨h1, rfl⟩ | ⟨h1, hne⟩ | ⟨h1, h2, h3, _⟩
    · subst h1
      have e1 : g'.v id = v' := by simp [g', upd]
      have e2 : g'.fp id = F := by simp [g']
      rw [e1, e2]
      exact ⟨hcl, hFN⟩
    · obtain ⟨sz0, xs0, xs', hj, hb, hF', rfl, hc⟩ := hsrc' id o1 h1
      have hin : id ∈ src.map (·.1) := by rw [h1]; simp
      have e1 : g'.v id = g.v id := by simp [g', upd, hne]
      have e2 : g'.fp id = F' := by simp only [g', hne, if_false]; rw [if_pos hin]
      rw [e1, e2]
      refine ⟨hc.mono (fun b hb2 => ?_) k.I (fun _ h => h), fun x hx => .inl ((m.objs id _ hj).2 x (hF' x hx).1)⟩
      refine hsame b ((m.objs id _ hj).lt b (hF' b hb2).1) (fun i oi hi hoi hfi => ?_)
      exact hb i hi (m.disj i id _ _ b hoi hj hfi (hF' b hb2).1)
    · rcases hT with h | h | h
      · exact absurd h h1
      · exact absurd h h2
      · exact absurd h h3
  · refine .ref _ _ hcl.one (.inr rfl) (fun o1 ho => ?_)
    simp [g', upd]
  · intro id hu
    rcases hu with hu | rfl
    · exact .inl hu
    · exact .inr ⟨Nat.le_refl _, by omega⟩

theorem done_append (m : Mem cx s.heap s.ep g w) (hk : ¬ g.used key) {x1 x2 : Operand} {t e : TypeId} {i0 : TypeInfo} {z : Value} {flat : Bool} {y1 y2 : Opd} (ho : o.op = .call { callee := .builtin .append, args := #[x1, x2], argTypes := #[t, t] })
    (ht : cx.P.underlying t = some (.slice e)) (hi : cx.P.info? e = some i0) (hz : i0.zero = some z) (hzs : z.cells.size = i0.size)
    (h1 : SRel cx.num w cx.R g s.heap s.ep (a.eval x1) (y1.ev s.slots)) (h2 : SRel cx.num w cx.R g s.heap s.ep (a.eval x2) (y2.ev s.slots))
    (h : sem cl (.append i0.size i0.bytes flat y1 y2) key s.slots s.heap s.ep = some out) : Done cx s g a w o key out := by
  simp only [sem] at h
  generalize y1.ev s.slots = c1 at h h1
  generalize e1 : a.eval x1 = v1 at h1
  cases htk : takeRows s.heap s.ep flat (y2.ev s.slots) with
  | none => rw [htk] at h; cases h
  | some p =>
    obtain ⟨sz', ys, ws⟩ := p
    rw [htk] at h
    simp only at h
    split at h
    case isFalse => cases h
    rename_i hszy
    obtain ⟨us, fs, F', hsrc⟩ := take_rel m h2 htk
    have hrows : ys = [] ∨ Rows w g.I i0.size ys us fs := by
      rcases hszy with rfl | hy
      · exact .inr hsrc.rows
      · exact .inl hy
    have hat : (ys = [] ∧ ∃ ad cap, a.eval x2 = .slice ad 0 cap) ∨ ∃ (b off cap : Nat), a.eval x2 = .slice (some ⟨b, off, none⟩) ys.length cap ∧ ∀ i j c, cellAt ys i j = some c → w.cell? ⟨b, off + i * i0.size + j, none⟩ = some (us i j) := by
      rcases hszy with rfl | hy
      · exact hsrc.at_
      · subst hy
        rcases hsrc.at_ with h | ⟨b, off, cap, hv, _⟩
        · exact .inl h
        · exact .inl ⟨rfl, _, _, hv⟩
    have hfallold : ∀ x, Fall ys fs x → ∃ id sz0 xs0 o', ws = [(id, o')] ∧ s.heap id = some (.arr sz0 xs0) ∧ g.fp id x := by
      intro x hx
      rcases hsrc.left with ⟨_, hn⟩ | ⟨id, sz0, xs0, o', hw, hj, hin, _⟩
      · exact absurd hx (hn x)
      · exact ⟨id, sz0, xs0, o', hw, hj, hin x hx⟩
    have hlt : ∀ x, Fall ys fs x → x < w.heap.size := fun x hx => by
      obtain ⟨id, sz0, xs0, o', _, hj, hf⟩ := hfallold x hx
      exact (m.objs id _ hj).lt x hf
    have hys : ys = [] → ∀ x, ¬ Fall ys fs x := by
      rintro rfl x ⟨i, j, c, hc, _⟩
      simp [cellAt] at hc
    -- the rest, given the base
    have fin : ∀ (xs : List (List AV)) (S0 : Nat → Prop) (base : List Nat), Cl w g.I v1 (.sl .own i0.size xs) S0 → (base = [] ∧ (∀ x, ¬ S0 x) ∨ ∃ id, base = [id] ∧ s.heap id = some (.arr i0.size xs) ∧ S0 = g.fp id) →
        (∀ i ∈ base, ∀ p ∈ ws, p.1 ≠ i) → (xs.length + ys.length) * i0.bytes ≤ 140737488355328 → xs.length + ys.length ≤ 140737488355328 →
        out = ⟨.ref key, (key, some (.arr i0.size (xs ++ ys))) :: (kill base ++ ws), true⟩ → Done cx s g a w o key out := by
      intro xs S0 base hcl0 hb hne hb1 hb2 hout
      have hS0 : ∀ x, S0 x → ∃ id, id ∈ base ∧ s.heap id = some (.arr i0.size xs) ∧ g.fp id x := by
        intro x hx
        rcases hb with ⟨_, hn⟩ | ⟨id, rfl, hid, rfl⟩
        · exact absurd hx (hn x)
        · exact ⟨id, by simp, hid, hx⟩
      have hdis : ∀ x, S0 x → ¬ Fall ys fs x := by
        intro x hx hf
        obtain ⟨id, hin, hid, hfx⟩ := hS0 x hx
        obtain ⟨id', sz0, xs0, o', hw, hj, hf'⟩ := hfallold x hf
        exact hne id hin (id', o') (by rw [hw]; simp) (m.disj id' id _ _ x hj hid hf' hfx)
      obtain ⟨v', w', F, hrun, hcl', hF, h3, h4, h5, h6, h7⟩ := append_run (ty := o.type) ht hi hz hzs rfl hcl0 hat hrows hys hdis (fun x hx hI => by
        obtain ⟨id, _, hid, hfx⟩ := hS0 x hx
        exact (m.mine id _ x hid hfx).2 hI) m.I_lt hlt hb1 hb2
      refine done_append_at m hk (v' := v') (w' := w') (F := F) (F' := fun x => F' x) (base := base) (src := ws) ?_ hcl' ?_ ?_ ?_ h3 h4 h5 h6 ?_ hout
      · simp [execOp, ho, resolve, invoke, builtin, e1, hrun]
      · rcases hb with ⟨rfl, _⟩ | ⟨id, rfl, hid, _⟩
        · exact .inl rfl
        · exact .inr ⟨id, _, _, rfl, hid⟩
      · rcases hsrc.left with ⟨hw, _⟩ | ⟨id, sz0, xs0, o', hw, hj, hin, hF', hc⟩
        · exact .inl hw
        · refine .inr ⟨id, sz0, xs0, o', hw, hj, fun i hi e => hne i hi (id, o') (by rw [hw]; simp) e.symm, fun x hx => ⟨(hF' x hx).1, fun hFx => ?_⟩, hc⟩
          rcases hF x hFx with h8 | h8 | h8
          · have := (m.objs id _ hj).lt x (hF' x hx).1; omega
          · obtain ⟨id2, hin2, hid2, hfx2⟩ := hS0 x h8
            exact hne id2 hin2 (id, o') (by rw [hw]; simp) (m.disj id id2 _ _ x hj hid2 (hF' x hx).1 hfx2)
          · exact (hF' x hx).2 h8
      · intro x hx
        rcases hF x hx with h8 | h8 | h8
        · exact .inl h8
        · obtain ⟨id2, hin2, hid2, hfx2⟩ := hS0 x h8
          exact .inr ⟨id2, _, .inl hin2, hid2, hfx2⟩
        · obtain ⟨id', sz0, xs0, o', hw, hj, hf'⟩ := hfallold x h8
          exact .inr ⟨id', _, .inr (by rw [hw]; simp), hj, hf'⟩
      · intro k hk2 hno
        refine h7 k hk2 (fun hS => ?_)
        obtain ⟨id2, hin2, hid2, hfx2⟩ := hS0 k hS
        exact hno id2 _ hin2 hid2 hfx2
    cases c1 <;> try (cases h; done)
    · rename_i md szb xs
      cases md <;> cases xs <;> try (cases h; done)
      dsimp only at h
      split at h
      case isFalse => cases h
      rename_i hb
      cases h1 with
      | nil => exact fin [] (fun _ => False) [] (.nil _ _ (fun _ h => h)) (.inl ⟨rfl, fun _ h => h⟩) (by simp) (by simpa using hb.1) (by simpa using hb.2) (Option.some.inj h).symm
      | sl _ _ _ _ _ _ _ hown => exact absurd rfl hown
    · rename_i id
      dsimp only at h
      cases hh : s.heap id with
      | none => rw [hh] at h; cases h
      | some ob =>
        rw [hh] at h
        cases ob <;> simp only [reduceCtorEq] at h
        rename_i sz2 xs
        split at h
        case isFalse => cases h
        rename_i hb
        obtain ⟨hb1, hb2, hb3, rfl⟩ := hb
        cases h1 with
        | ref _ _ _ _ hv =>
          have hv' := hv _ hh
          subst hv'
          refine fin xs (g.fp id) [id] (m.objs id _ hh).1 (.inr ⟨id, rfl, hh, rfl⟩) ?_ hb1 hb2 (Option.some.inj h).symm
          intro i hi p hp
          rw [List.mem_singleton.1 hi]
          rw [List.all_eq_true] at hb3
          simpa using hb3 p hp
end
end Go.Proofs.Ytfebkfeobdffjaa
