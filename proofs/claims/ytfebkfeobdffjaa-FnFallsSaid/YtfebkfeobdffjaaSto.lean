/- Each operation of the model does what the abstract machine's does: stores, literals of slices, make. -/
import Derived.Test.YtfebkfeobdffjaaApp
namespace Go.Proofs.Ytfebkfeobdffjaa
open Go Go.RowKit
set_option linter.unusedSimpArgs false

theorem run_storeVar {P : Program} {w : World} {t e2 : TypeId} {i0 : TypeInfo} (hi : P.info? t = some i0) {b off : Nat} {cur : Array Value} (hg : w.heap[b]? = some (.cells cur e2 (0, 0))) (v : Value) (hsz : v.cells.size = i0.size) (h1 : ∀ u ∈ v.cells.toList, u.oneCell' = true)
    (hfit : off + v.cells.size ≤ cur.size) :
    (storeVar t ⟨b, off, none⟩ v).run P w = .ok () (w.setRow b (cur.toList.take off ++ v.cells.toList ++ cur.toList.drop (off + v.cells.size)).toArray) := by
  have hst := run_storeCells_at P b off e2 v.cells.toList 0 cur w hg (by simpa using hfit) h1
  simp only [Nat.add_zero, Array.length_toList] at hst
  simp [storeVar, run_sizeOf hi, hsz, hst]

theorem getElem?_patch {cur vs : List Value} {o k : Nat} (hfit : o + vs.length ≤ cur.length) : (cur.take o ++ vs ++ cur.drop (o + vs.length))[k]? = if o ≤ k ∧ k < o + vs.length then vs[k - o]? else cur[k]? := by
  have hl : (cur.take o).length = o := by simp; omega
  rw [List.append_assoc, List.getElem?_append, hl]
  by_cases h1 : k < o
  · rw [if_pos h1, if_neg (by omega), List.getElem?_take, if_pos h1]
  · rw [if_neg h1, List.getElem?_append]
    by_cases h2 : k - o < vs.length
    · rw [if_pos h2, if_pos (by omega)]
    · rw [if_neg h2, if_neg (by omega), List.getElem?_drop]
      congr 1
      omega

theorem CellsRel.one {num : Nat → Option FuncId} {w : World} {R : Nat → Prop} {g : Gh} {h : Nat → Option AO} {ep : Nat} {us : Array Value} {cs : List AV} (hc : CellsRel num w R g h ep us cs) : ∀ u ∈ us.toList, u.oneCell' = true := by
  intro u hu
  obtain ⟨j, hj⟩ := List.getElem?_of_mem hu
  rw [Array.getElem?_toList] at hj
  have hlt := (Array.getElem?_eq_some_iff.1 hj).1
  exact (hc.2 j u _ hj (List.getElem?_eq_getElem (by rw [← hc.1]; exact hlt))).1

section
variable {cx : Cx} {s : St} {g : Gh} {a : Act} {w : World} {o : Oper} {key : Nat} {out : Out} {cl : Callee}

/-- A store into a variable of the call's own. -/
theorem done_store_box (m : Mem cx s.heap s.ep g w) {id off : Nat} {cells vs : List AV} {b : Nat} {us : Array Value} (hh : s.heap id = some (.box cells)) (hv : g.v id = .pointer (some ⟨b, 0, none⟩)) (hc : CellsRel cx.num w cx.R g s.heap s.ep us vs)
    (hle : off + vs.length ≤ cells.length)
    (hrun : ∀ cur e2, w.heap[b]? = some (.cells cur e2 (0, 0)) → off + us.size ≤ cur.size → (execOp a.eval o).run cx.P w = .ok .skip (w.setRow b (cur.toList.take off ++ us.toList ++ cur.toList.drop (off + us.size)).toArray))
    (h : out = ⟨.any, [(id, some (.box (lay cells off vs)))], false⟩) : Done cx s g a w o key out := by
  subst h
  obtain ⟨b', cur, e2, hv', hheap, hsz, hS, hN, hcs⟩ := m.objs id _ hh
  rw [hv] at hv'
  simp only [Value.pointer.injEq, Option.some.injEq, Addr.mk.injEq, and_true] at hv'
  subst hv'
  have hus := hc.1
  have hfit : off + us.size ≤ cur.size := by omega
  have hr := hrun cur e2 hheap hfit
  have hnew := setRow_heap w b cur (cur.toList.take off ++ us.toList ++ cur.toList.drop (off + us.size)).toArray e2 (0, 0) hheap
  have hoth : ∀ k, k ≠ b → (w.setRow b (cur.toList.take off ++ us.toList ++ cur.toList.drop (off + us.size)).toArray).heap[k]? = w.heap[k]? := fun k hk => setRow_other w b k _ hk
  generalize hw1 : w.setRow b (cur.toList.take off ++ us.toList ++ cur.toList.drop (off + us.size)).toArray = w1 at hr hnew hoth
  have hSb : g.fp id b := (hS b).2 rfl
  have hsize : w1.heap.size = w.heap.size := by rw [← hw1]; simp [World.setRow]
  have hfr : w1.os = w.os ∧ w1.tape = w.tape ∧ w1.output = w.output := by rw [← hw1]; exact ⟨rfl, rfl, rfl⟩
  have hheap' : wsOn s.heap [(id, some (.box (lay cells off vs)))] = upd s.heap id (some (.box (lay cells off vs))) := rfl
  have t : Touch cx (fun j => j = id) s.heap s.ep g w (upd s.heap id (some (.box (lay cells off vs)))) s.ep g w1 := by
    refine ⟨hfr.1, hfr.2.1, hfr.2.2, by omega, Nat.le_refl _, ?_, ?_, fun _ h => h, ?_, ?_, ?_, ?_, fun _ h => h, fun _ h => .inl h, m.I_N, fun _ h => h, fun _ h => .inl h, ?_⟩
    · intro j hj
      exact ⟨by simp [upd, hj], fun _ => ⟨rfl, rfl⟩⟩
    · intro k hk hO
      exact hoth k (fun e => hO ⟨id, _, rfl, hh, e ▸ hSb⟩)
    · intro j o' hj _
      rw [hj]; exact m.used id _ hh
    · intro j o' hj _ ho
      rw [hj] at ho ⊢
      simp only [upd, if_true, Option.some.injEq] at ho
      subst ho
      exact ⟨_, hh, trivial, rfl⟩
    · intro j o' k hj _ hf
      rw [hj] at hf
      exact ⟨.inr ⟨id, _, rfl, hh, hf⟩, (m.mine id _ k hh hf).2⟩
    · intro j j' _ _ k hj hj' _ _ _ _
      exact hj.trans hj'.symm
    · intro _ k hk
      exact hoth k (fun e => hN (e ▸ hk))
  have k := t.keeps m
  refine ⟨.skip, undef, w1, g, hr, .inr ⟨rfl, rfl⟩, k, t.mem m (fun j o' hj ho => ?_), .any _, fun _ h => .inl h⟩
  rw [hj] at ho ⊢
  simp only [upd, if_true, Option.some.injEq] at ho
  subst ho
  refine ⟨b, _, e2, hv, hnew, ?_, hS, hN, fun i u c hu hci => ?_⟩
  · rw [lay_length _ _ _ hle, ← hsz]
    simp only [List.size_toArray, List.length_append, List.length_take, List.length_drop, Array.length_toList]
    rw [Nat.min_eq_left (by omega)]
    omega
  · rw [List.getElem?_toArray, show us.size = us.toList.length by simp, getElem?_patch (by simp; omega)] at hu
    rw [lay_get _ _ _ _ hle] at hci
    simp only [Array.length_toList] at hu
    by_cases h1 : off ≤ i ∧ i < off + vs.length
    · rw [if_pos (by omega)] at hu
      rw [if_pos h1] at hci
      rw [Array.getElem?_toList] at hu
      obtain ⟨h2, h3⟩ := hc.2 _ _ _ hu hci
      exact ⟨h2, h3.mono k⟩
    · rw [if_neg (by omega)] at hu
      rw [if_neg h1] at hci
      rw [Array.getElem?_toList] at hu
      obtain ⟨h2, h3⟩ := hcs _ _ _ hu hci
      exact ⟨h2, h3.mono k⟩

/-- The blocks of a cell that moved in. -/
def srcFp (g : Gh) : Option Nat → Nat → Prop
  | some id => g.fp id
  | none => fun _ => False

theorem CellIn.closed (m : Mem cx s.heap s.ep g w) {u : Value} {c : AV} {src : Option Nat} (h : CellIn s.heap g w u c src) : Cl w g.I u c (srcFp g src) := by
  cases src with
  | none => exact h
  | some id =>
    obtain ⟨sz, xs, hh, rfl, rfl⟩ := h
    exact (m.objs id _ hh).1

theorem CellIn.alive {u : Value} {c : AV} {id : Nat} (h : CellIn s.heap g w u c (some id)) : ∃ sz xs, s.heap id = some (.arr sz xs) := by
  obtain ⟨sz, xs, hh, _⟩ := h
  exact ⟨sz, xs, hh⟩

theorem cellAt_set {xs : List (List AV)} {i : Nat} {row : List AV} (hi : i < xs.length) (i' j : Nat) : cellAt (xs.set i row) i' j = if i' = i then row[j]? else cellAt xs i' j := by
  unfold cellAt
  rw [List.getElem?_set]
  by_cases h : i = i'
  · subst h; simp [hi]
  · simp [h, Ne.symm h]

/-- Which number moved in at place k. -/
def srcAt (vs : List AV) (k : Nat) : Option Nat := (((vs[k]?).map refId).getD []).head?

theorem srcAt_some {vs : List AV} {k id : Nat} (h : srcAt vs k = some id) : ∃ x, vs[k]? = some x ∧ id ∈ refId x := by
  unfold srcAt at h
  cases hx : vs[k]? with
  | none => rw [hx] at h; simp at h
  | some x =>
    rw [hx] at h
    exact ⟨x, rfl, List.mem_of_mem_head? (by simpa using h)⟩

theorem srcAt_mem {vs : List AV} {k id : Nat} (h : srcAt vs k = some id) : id ∈ vs.flatMap refId := by
  obtain ⟨x, hx, hm⟩ := srcAt_some h
  exact List.mem_flatMap.2 ⟨x, List.mem_of_getElem? hx, hm⟩

theorem srcAt_inj {vs : List AV} (hn : (vs.flatMap refId).Nodup) {k k' id : Nat} (h : srcAt vs k = some id) (h' : srcAt vs k' = some id) : k = k' := by
  obtain ⟨x, hx, hm⟩ := srcAt_some h
  obtain ⟨y, hy, hm'⟩ := srcAt_some h'
  exact flat_inj hn hx hy hm hm'

theorem srcAt_get {vs : List AV} {k : Nat} {x : AV} (h : vs[k]? = some x) : srcAt vs k = (refId x).head? := by simp [srcAt, h]

/-- A store into an array of the call's own; what it takes in is gone from the slots. -/
theorem done_store_arr (m : Mem cx s.heap s.ep g w) {id i off sz : Nat} {xs : List (List AV)} {row vs cs : List AV} {is : List Nat} {b n cap : Nat} {us : Array Value} (hh : s.heap id = some (.arr sz xs)) (hv : g.v id = .slice (some ⟨b, 0, none⟩) n cap)
    (hrow : xs[i]? = some row) (hc : CellsRel cx.num w cx.R g s.heap s.ep us vs) (ha : absorb s.heap vs = some (cs, is)) (hle : off + cs.length ≤ row.length) (hdist : distinct (id :: is) = true)
    (hrun : ∀ cur e2, w.heap[b]? = some (.cells cur e2 (0, 0)) → (i * sz + off) + us.size ≤ cur.size → (execOp a.eval o).run cx.P w = .ok .skip (w.setRow b (cur.toList.take (i * sz + off) ++ us.toList ++ cur.toList.drop ((i * sz + off) + us.size)).toArray))
    (h : out = ⟨.any, (id, some (.arr sz (xs.set i (lay row off cs)))) :: kill is, true⟩) : Done cx s g a w o key out := by
  subst h
  have hlt := (List.getElem?_eq_some_iff.1 hrow).1
  obtain ⟨hcl0, hN0⟩ := m.objs id _ hh
  obtain ⟨hcsl, hisv, hcells⟩ := absorb_rel (num := cx.num) (w := w) (R := cx.R) (g := g) (ep := s.ep) ha
  have hnd := distinct_nodup hdist
  rw [hisv] at hnd
  obtain ⟨hidn, hnd⟩ := List.nodup_cons.1 hnd
  rw [← hisv] at hidn
  rcases hcl0.rows with ⟨h5, h6, _⟩ | ⟨b', cap', cur, e2, us0, fs, h5, hheap, hcap, hmax, hcur, hcell, r0, hnb, hS⟩
  · rw [h6] at hlt; simp at hlt
  rw [hv] at h5
  simp only [Value.slice.injEq, Option.some.injEq, Addr.mk.injEq, and_true] at h5
  obtain ⟨rfl, rfl, rfl⟩ := h5
  have hrl := rows_len r0.row hrow
  have hus := hc.1
  have hin1 : (i + 1) * sz ≤ cap * sz := Nat.mul_le_mul_right _ (by omega)
  rw [Nat.add_mul, Nat.one_mul] at hin1
  have hfit : (i * sz + off) + us.size ≤ cur.size := by omega
  have hr := hrun cur e2 hheap hfit
  have hnew := setRow_heap w b cur (cur.toList.take (i * sz + off) ++ us.toList ++ cur.toList.drop ((i * sz + off) + us.size)).toArray e2 (0, 0) hheap
  have hoth : ∀ k, k ≠ b → (w.setRow b (cur.toList.take (i * sz + off) ++ us.toList ++ cur.toList.drop ((i * sz + off) + us.size)).toArray).heap[k]? = w.heap[k]? := fun k hk => setRow_other w b k _ hk
  generalize hw1 : w.setRow b (cur.toList.take (i * sz + off) ++ us.toList ++ cur.toList.drop ((i * sz + off) + us.size)).toArray = w1 at hr hnew hoth
  have hSb : g.fp id b := (hS b).2 (.inl rfl)
  have hsize : w1.heap.size = w.heap.size := by rw [← hw1]; simp [World.setRow]
  have hfr : w1.os = w.os ∧ w1.tape = w.tape ∧ w1.output = w.output := by rw [← hw1]; exact ⟨rfl, rfl, rfl⟩
  -- what moved in
  have hsrc : ∀ k c, cs[k]? = some c → ∃ u, us[k]? = some u ∧ CellIn s.heap g w u c (srcAt vs k) := by
    intro k c hk
    have hk1 := (List.getElem?_eq_some_iff.1 hk).1
    have hu : us[k]? = some (us[k]'(by omega)) := Array.getElem?_eq_getElem (by omega)
    have hx : vs[k]? = some (vs[k]'(by omega)) := List.getElem?_eq_getElem (by omega)
    refine ⟨_, hu, ?_⟩
    rw [srcAt_get hx]
    exact hcells k _ _ c hx hk (hc.2 k _ _ hu hx).2
  have halive : ∀ k j, k < cs.length → srcAt vs k = some j → j ∈ is ∧ j ≠ id ∧ ∃ sz0 xs0, s.heap j = some (.arr sz0 xs0) := by
    intro k j hk hj
    have hm : j ∈ is := by rw [hisv]; exact srcAt_mem hj
    obtain ⟨u, _, h2⟩ := hsrc k _ (List.getElem?_eq_getElem hk)
    rw [hj] at h2
    exact ⟨hm, fun e => hidn (e ▸ hm), h2.alive⟩
  have hisalive : ∀ j ∈ is, ∃ o1, s.heap j = some o1 := by
    intro j hj
    rw [hisv] at hj
    obtain ⟨x, hx, hjx⟩ := List.mem_flatMap.1 hj
    obtain ⟨k, hk⟩ := List.getElem?_of_mem hx
    have hk1 := (List.getElem?_eq_some_iff.1 hk).1
    have hs : srcAt vs k = some j := by
      rw [srcAt_get hk]
      cases x <;> simp [refId] at hjx ⊢
      exact hjx.symm
    obtain ⟨_, _, sz0, xs0, ho⟩ := halive k j (by omega) hs
    exact ⟨_, ho⟩
  -- the new rows
  have hcat : ∀ i' j c, cellAt (xs.set i (lay row off cs)) i' j = some c → (i' = i ∧ off ≤ j ∧ j < off + cs.length ∧ cs[j - off]? = some c) ∨ (¬ (i' = i ∧ off ≤ j ∧ j < off + cs.length) ∧ cellAt xs i' j = some c) := by
    intro i' j c hcc
    rw [cellAt_set hlt] at hcc
    by_cases h1 : i' = i
    · rw [if_pos h1, lay_get _ _ _ _ hle] at hcc
      by_cases h2 : off ≤ j ∧ j < off + cs.length
      · rw [if_pos h2] at hcc; exact .inl ⟨h1, h2.1, h2.2, hcc⟩
      · rw [if_neg h2] at hcc; exact .inr ⟨fun h => h2 h.2, cellAt_some.2 ⟨row, by rw [h1]; exact hrow, hcc⟩⟩
    · rw [if_neg h1] at hcc; exact .inr ⟨fun h => h1 h.1, hcc⟩
  let fs' : Nat → Nat → Nat → Prop := fun i' j x => if i' = i ∧ off ≤ j ∧ j < off + cs.length then srcFp g (srcAt vs (j - off)) x else fs i' j x
  let us' : Nat → Nat → Value := fun i' j => if i' = i ∧ off ≤ j ∧ j < off + cs.length then us[j - off]?.getD undef else us0 i' j
  have hsrcfp : ∀ k x, k < cs.length → srcFp g (srcAt vs k) x → ∃ j sz0 xs0, srcAt vs k = some j ∧ j ∈ is ∧ j ≠ id ∧ s.heap j = some (.arr sz0 xs0) ∧ g.fp j x := by
    intro k x hk hx
    cases hj : srcAt vs k with
    | none => rw [hj] at hx; exact hx.elim
    | some j =>
      rw [hj] at hx
      obtain ⟨h1, h2, sz0, xs0, h3⟩ := halive k j hk hj
      exact ⟨j, sz0, xs0, rfl, h1, h2, h3, hx⟩
  have rr : Rows w g.I sz (xs.set i (lay row off cs)) us' fs' := by
    refine ⟨fun r hr' => ?_, fun i' j c hcc => ?_, fun i1 j1 c1 i2 j2 c2 x hc1 hc2 hf1 hf2 => ?_⟩
    · rcases List.mem_or_eq_of_mem_set hr' with h1 | h1
      · exact r0.row r h1
      · rw [h1, lay_length _ _ _ hle]; exact hrl
    · rcases hcat i' j c hcc with ⟨h1, h2, h3, h4⟩ | ⟨h1, h2⟩
      · have hif : i' = i ∧ off ≤ j ∧ j < off + cs.length := ⟨h1, h2, h3⟩
        obtain ⟨u, h5, h6⟩ := hsrc _ _ h4
        simp only [us', fs', hif, and_self, if_true, h5, Option.getD_some]
        exact h6.closed m
      · simp only [us', fs', h1, if_false]
        exact r0.cl i' j c h2
    · rcases hcat i1 j1 c1 hc1 with ⟨h1, h2, h3, h4⟩ | ⟨h1, h2⟩ <;> rcases hcat i2 j2 c2 hc2 with ⟨k1, k2, k3, k4⟩ | ⟨k1, k2⟩
      · have hi1 : i1 = i ∧ off ≤ j1 ∧ j1 < off + cs.length := ⟨h1, h2, h3⟩
        have hi2 : i2 = i ∧ off ≤ j2 ∧ j2 < off + cs.length := ⟨k1, k2, k3⟩
        simp only [fs', hi1, hi2, and_self, if_true] at hf1 hf2
        obtain ⟨a1, _, _, p1, _, _, p2, p3⟩ := hsrcfp _ _ (by omega) hf1
        obtain ⟨a2, _, _, q1, _, _, q2, q3⟩ := hsrcfp _ _ (by omega) hf2
        have := m.disj a1 a2 _ _ x p2 q2 p3 q3
        subst this
        have := srcAt_inj hnd p1 q1
        exact ⟨by omega, by omega⟩
      · have hi1 : i1 = i ∧ off ≤ j1 ∧ j1 < off + cs.length := ⟨h1, h2, h3⟩
        simp only [fs', hi1, k1, and_self, if_true, if_false] at hf1 hf2
        obtain ⟨a1, _, _, p1, _, p0, p2, p3⟩ := hsrcfp _ _ (by omega) hf1
        exact absurd (m.disj a1 id _ _ x p2 hh p3 ((hS x).2 (.inr ⟨_, _, _, k2, hf2⟩))) p0
      · have hi2 : i2 = i ∧ off ≤ j2 ∧ j2 < off + cs.length := ⟨k1, k2, k3⟩
        simp only [fs', hi2, h1, and_self, if_true, if_false] at hf1 hf2
        obtain ⟨a1, _, _, p1, _, p0, p2, p3⟩ := hsrcfp _ _ (by omega) hf2
        exact absurd (m.disj a1 id _ _ x p2 hh p3 ((hS x).2 (.inr ⟨_, _, _, h2, hf1⟩))) p0
      · simp only [fs', h1, k1, if_false] at hf1 hf2
        exact r0.dis _ _ _ _ _ _ x h2 k2 hf1 hf2
  have hfall : ∀ x, Fall (xs.set i (lay row off cs)) fs' x → (g.fp id x ∧ x ≠ b) ∨ ∃ j o1, j ∈ is ∧ j ≠ id ∧ s.heap j = some o1 ∧ g.fp j x := by
    rintro x ⟨i', j, c, hcc, hf⟩
    rcases hcat i' j c hcc with ⟨h1, h2, h3, h4⟩ | ⟨h1, h2⟩
    · have hi1 : i' = i ∧ off ≤ j ∧ j < off + cs.length := ⟨h1, h2, h3⟩
      simp only [fs', hi1, and_self, if_true] at hf
      obtain ⟨a1, _, _, p1, p, p0, p2, p3⟩ := hsrcfp _ _ (by omega) hf
      exact .inr ⟨a1, _, p, p0, p2, p3⟩
    · simp only [fs', h1, if_false] at hf
      exact .inl ⟨(hS x).2 (.inr ⟨_, _, _, h2, hf⟩), fun e => hnb (e ▸ ⟨_, _, _, h2, hf⟩)⟩
  have hnotb : ¬ Fall (xs.set i (lay row off cs)) fs' b := by
    intro hx
    rcases hfall b hx with ⟨_, h1⟩ | ⟨j, o1, _, h2, h3, h4⟩
    · exact h1 rfl
    · exact h2 (m.disj j id _ _ b h3 hh h4 hSb)
  have hIb : ¬ g.I b := (m.mine id _ b hh hSb).2
  have hcl1 := rr.own (w1 := w1) (b := b) (cap := cap) hnew (by rw [List.length_set]; exact hcap) hmax (by
      refine Nat.le_trans hcur ?_
      simp only [List.size_toArray, List.length_append, List.length_take, List.length_drop, Array.length_toList]
      rw [Nat.min_eq_left (by omega)]
      omega)
    (by
      intro i' j c hcc
      have hj := cellAt_col rr.row hcc
      have hi' := cellAt_lt hcc
      rw [List.length_set] at hi'
      rw [List.getElem?_toArray, show us.size = us.toList.length by simp, getElem?_patch (by simp; omega)]
      simp only [Array.length_toList, Array.getElem?_toList]
      rcases hcat i' j c hcc with ⟨h1, h2, h3, h4⟩ | ⟨h1, h2⟩
      · have hif : i' = i ∧ off ≤ j ∧ j < off + cs.length := ⟨h1, h2, h3⟩
        rw [if_pos (by rw [h1]; omega)]
        obtain ⟨u, h5, _⟩ := hsrc _ _ h4
        simp only [us', hif, and_self, if_true]
        rw [show i * sz + j - (i * sz + off) = j - off by omega, h5]
        rfl
      · simp only [us', h1, if_false]
        rw [if_neg, hcell _ _ _ h2]
        rintro ⟨h3, h4⟩
        -- the place would lie in another row
        have hii : i' = i := by
          rcases Nat.lt_trichotomy i' i with hlt' | heq | hgt
          · have : (i' + 1) * sz ≤ i * sz := Nat.mul_le_mul_right _ hlt'
            rw [Nat.add_mul] at this; omega
          · exact heq
          · have : (i + 1) * sz ≤ i' * sz := Nat.mul_le_mul_right _ hgt
            rw [Nat.add_mul] at this; omega
        subst hii
        exact h1 ⟨rfl, by omega, by omega⟩)
    (fun x hx => hoth x (fun e => hnotb (e ▸ hx))) (fun x hx => hoth x (fun e => hIb (e ▸ hx))) hnotb
  have hheap' : ∀ j, wsOn s.heap ((id, some (.arr sz (xs.set i (lay row off cs)))) :: kill is) j = if j ∈ is then none else if j = id then some (.arr sz (xs.set i (lay row off cs))) else s.heap j := by
    intro j
    rw [wsOn, wsOn_kill]
    rfl
  have hlive : ∀ j o1, (j = id ∨ j ∈ is) → wsOn s.heap ((id, some (.arr sz (xs.set i (lay row off cs)))) :: kill is) j = some o1 → j = id ∧ o1 = .arr sz (xs.set i (lay row off cs)) := by
    intro j o1 hj ho
    rw [hheap'] at ho
    by_cases h1 : j ∈ is
    · simp [h1] at ho
    · have h2 := hj.resolve_right h1
      simp only [h1, if_false] at ho
      rw [if_pos h2] at ho
      exact ⟨h2, (Option.some.inj ho).symm⟩
  let F' : Nat → Prop := fun x => x = b ∨ Fall (xs.set i (lay row off cs)) fs' x
  have hF' : ∀ x, F' x → Of (fun j => j = id ∨ j ∈ is) s.heap g x := by
    rintro x (rfl | hx)
    · exact ⟨id, _, .inl rfl, hh, hSb⟩
    · rcases hfall x hx with ⟨h1, _⟩ | ⟨j, o1, h1, _, h3, h4⟩
      · exact ⟨id, _, .inl rfl, hh, h1⟩
      · exact ⟨j, o1, .inr h1, h3, h4⟩
  have hfpid : upd g.fp id F' id = F' := by simp [upd]
  have t : Touch cx (fun j => j = id ∨ j ∈ is) s.heap s.ep g w (wsOn s.heap ((id, some (.arr sz (xs.set i (lay row off cs)))) :: kill is)) (s.ep + 1) ⟨g.v, upd g.fp id F', g.I, g.N, g.used⟩ w1 := by
    refine ⟨hfr.1, hfr.2.1, hfr.2.2, by omega, Nat.le_succ _, ?_, ?_, fun _ h => h, ?_, ?_, ?_, ?_, fun _ h => h, fun _ h => .inl h, m.I_N, fun _ h => h, fun _ h => .inl h, fun he => absurd he (by omega)⟩
    · intro j hj
      have h1 : j ≠ id := fun e => hj (.inl e)
      have h2 : j ∉ is := fun e => hj (.inr e)
      exact ⟨by rw [hheap']; simp [h1, h2], fun _ => ⟨rfl, by simp [upd, h1]⟩⟩
    · intro k hk hO
      exact hoth k (fun e => hO ⟨id, _, .inl rfl, hh, e ▸ hSb⟩)
    · intro j o1 hj ho
      obtain ⟨rfl, _⟩ := hlive j o1 hj ho
      exact m.used _ _ hh
    · intro j o1 hj _ ho
      obtain ⟨rfl, rfl⟩ := hlive j o1 hj ho
      exact ⟨_, hh, rfl, rfl⟩
    · intro j o1 x hj ho hf
      obtain ⟨rfl, _⟩ := hlive j o1 hj ho
      have hf' : F' x := by rw [← hfpid]; exact hf
      obtain ⟨j2, o2, h1, h2, h3⟩ := hF' x hf'
      exact ⟨.inr ⟨j2, o2, h1, h2, h3⟩, (m.mine j2 o2 x h2 h3).2⟩
    · intro j j' o1 o2 x hj hj' ho ho' _ _
      exact (hlive j o1 hj ho).1.trans (hlive j' o2 hj' ho').1.symm
  have k := t.keeps m
  refine ⟨.skip, undef, w1, _, hr, .inr ⟨rfl, rfl⟩, k, t.mem m (fun j o1 hj ho => ?_), .any _, fun _ h => .inl h⟩
  obtain ⟨rfl, rfl⟩ := hlive j o1 hj ho
  show ORel _ _ _ _ _ _ (g.v j) (upd g.fp j F' j) _
  rw [hfpid, hv]
  rw [List.length_set] at hcl1
  refine ⟨hcl1, fun x hx => ?_⟩
  rcases hx with rfl | hx
  · exact hN0 _ hSb
  · rcases hfall x hx with ⟨h1, _⟩ | ⟨j2, o2, h1, _, h3, h4⟩
    · exact hN0 x h1
    · obtain ⟨k2, hk2⟩ : ∃ k2, srcAt vs k2 = some j2 ∧ k2 < cs.length := by
        rw [hisv] at h1
        obtain ⟨y, hy, hjy⟩ := List.mem_flatMap.1 h1
        obtain ⟨k2, hk2⟩ := List.getElem?_of_mem hy
        refine ⟨k2, ?_, by have := (List.getElem?_eq_some_iff.1 hk2).1; omega⟩
        rw [srcAt_get hk2]
        cases y <;> simp [refId] at hjy ⊢
        exact hjy.symm
      obtain ⟨_, _, sz0, xs0, h5⟩ := halive k2 j2 hk2.2 hk2.1
      exact (m.objs j2 _ h5).2 x h4

theorem done_store (m : Mem cx s.heap s.ep g w) {x1 x2 : Operand} {t : TypeId} {i0 : TypeInfo} {y1 y2 : Opd} (ho : o.op = .store t x1 x2) (hi : cx.P.info? t = some i0)
    (h1 : SRel cx.num w cx.R g s.heap s.ep (a.eval x1) (y1.ev s.slots)) (h2 : SRel cx.num w cx.R g s.heap s.ep (a.eval x2) (y2.ev s.slots))
    (h : sem cl (.store y1 y2 i0.size) key s.slots s.heap s.ep = some out) : Done cx s g a w o key out := by
  simp only [sem] at h
  generalize y1.ev s.slots = c1 at h h1
  generalize e1 : a.eval x1 = v1 at h1
  cases hp : (y2.ev s.slots).parts with
  | none => rw [hp] at h; cases c1 <;> cases h
  | some vs =>
    rw [hp] at h
    have hc := parts_rel h2 hp
    cases c1 <;> try (cases h; done)
    rename_i id i off
    dsimp only at h
    split at h
    case isFalse => cases h
    rename_i hlen
    cases hh : s.heap id with
    | none => rw [hh] at h; cases h
    | some ob =>
      rw [hh] at h
      cases h1 with
      | ptr _ _ _ _ _ _ hv =>
        have hpt := hv ob hh
        have hrun : ∀ (b off2 : Nat), v1 = .pointer (some ⟨b, off2, none⟩) → ∀ cur e2, w.heap[b]? = some (.cells cur e2 (0, 0)) → off2 + (a.eval x2).cells.size ≤ cur.size →
            (execOp a.eval o).run cx.P w = .ok .skip (w.setRow b (cur.toList.take off2 ++ (a.eval x2).cells.toList ++ cur.toList.drop (off2 + (a.eval x2).cells.size)).toArray) := by
          intro b off2 hb cur e2 hg hfit
          have := run_storeVar (P := cx.P) hi hg (a.eval x2) (by rw [hc.1, hlen]) hc.one hfit
          subst hb
          simp [execOp, ho, e1, Instr.storeAt, Instr.sureAddr, this]
        cases ob with
        | box cells =>
          dsimp only at h
          split at h
          case isFalse => cases h
          rename_i hle
          obtain ⟨b, hg, he⟩ := hpt
          exact done_store_box m hh hg hc (by omega) (hrun b off he) (Option.some.inj h).symm
        | arr sz xs =>
          dsimp only at h
          obtain ⟨b, n, cp, hg, he⟩ := hpt
          cases hx : xs[i]? with
          | none => rw [hx] at h; cases h
          | some row =>
            rw [hx] at h
            cases ha : absorb s.heap vs with
            | none => rw [ha] at h; cases h
            | some q =>
              obtain ⟨us, is⟩ := q
              rw [ha] at h
              dsimp only at h
              split at h
              case isFalse => cases h
              rename_i hle
              obtain ⟨hl, _⟩ := absorb_rel (num := cx.num) (w := w) (R := cx.R) (g := g) (ep := s.ep) ha
              exact done_store_arr m hh hg hx hc ha (by omega) hle.2 (hrun b _ he) (Option.some.inj h).symm
        | map _ _ => cases h
end
end Go.Proofs.Ytfebkfeobdffjaa
