/- Calls: what a function promises, and what that does in its caller. -/
import Derived.Test.YtfebkfeobdffjaaPass
namespace Go.Proofs.Ytfebkfeobdffjaa
open Go Go.RowKit
set_option linter.unusedSimpArgs false

/-- Behind a call: the frame, the result, what was given away. -/
structure Post (cx : Cx) (w' : World) (v : Value) (r : AV) (outs : List (Option AO)) (I N S : Nat → Prop) (fo : Nat → Nat → Prop) : Prop where
  frame : FrameW cx.w0 w' cx.M
  len : outs.length = cx.base
  I_up : ∀ b, cx.I0 b → I b
  I_new : ∀ b, I b → cx.I0 b ∨ (cx.M b ∨ cx.w0.heap.size ≤ b)
  I_N : ∀ b, I b → N b
  N_up : ∀ b, cx.N0 b → N b
  N_new : ∀ b, N b → cx.N0 b ∨ cx.w0.heap.size ≤ b
  N_lt : ∀ b, N b → b < w'.heap.size
  res : ResRel w' I N v r S
  out : ∀ k o, outs[k]? = some (some o) → Shut w' I N (cx.v0 k) o.av (fo k) ∧ ∃ o0, cx.h0 k = some o0 ∧ o0.alike o
  mineS : ∀ x, S x → (cx.M x ∨ cx.w0.heap.size ≤ x) ∧ ¬ I x
  mineO : ∀ k x, k < cx.base → fo k x → (cx.M x ∨ cx.w0.heap.size ≤ x) ∧ ¬ I x
  disS : ∀ k x, k < cx.base → S x → ¬ fo k x
  disO : ∀ k l x, k < cx.base → l < cx.base → fo k x → fo l x → k = l

/-- A call of 'f' goes through. -/
def Callable (P : Program) (f : FuncId) (vs : Array Value) (w : World) (R : Value → World → Prop) : Prop :=
  ∀ (o : Oper) (a : Act) (next : Act → World → Prop) (Q : Exit → Act → World → Prop), (∀ v w', R v w' → next (a.put o.dst v) w') → o.upon P a next Q ((callFunc f vs).run P w)

/-- What a function promises at these arguments. -/
def Contract (P : Program) (num : Nat → Option FuncId) (f : FuncId) (args : List AV) (objs : List AO) (r : AV) (outs : List (Option AO)) : Prop :=
  ∀ (cx : Cx) (g : Gh) (w : World) (vs : Array Value), cx.P = P → cx.num = num → cx.w0 = w → cx.base = objs.length → cx.h0 = startHeap objs 0 → cx.v0 = g.v → (∀ id, g.used id → id < objs.length) → Mem cx (startHeap objs 0) 0 g w →
    vs.size = args.length → (∀ (i : Nat) (v : Value) (c : AV), vs[i]? = some v → args[i]? = some c → SRel num w cx.R g (startHeap objs 0) 0 v c) →
    Callable P f vs w fun v w' => ∃ I N S fo, Post cx w' v r outs I N S fo

/-- An operation goes through as the abstract machine says. -/
def Goes (cx : Cx) (s : St) (g : Gh) (a : Act) (w : World) (o : Oper) (key : Nat) (out : Out) : Prop :=
  ∀ (next : Act → World → Prop) (Q : Exit → Act → World → Prop),
    (∀ v w' g', Keeps w cx.R g s.heap s.ep w' g' (wsOn s.heap out.ws) (if out.bump then s.ep + 1 else s.ep) → Mem cx (wsOn s.heap out.ws) (if out.bump then s.ep + 1 else s.ep) g' w' →
      SRel cx.num w' cx.R g' (wsOn s.heap out.ws) (if out.bump then s.ep + 1 else s.ep) v out.v → (∀ id, g'.used id → g.used id ∨ (key ≤ id ∧ id < key + 64)) → next (a.put o.dst v) w') →
    o.wp cx.P a w next Q

theorem evL_length (g : Nat → AV) : ∀ ys : List Opd, (evL g ys).length = ys.length
  | [] => rfl
  | y :: ys => by simp [evL, evL_length g ys]

section
variable {cx : Cx} {s : St} {g : Gh} {a : Act} {w : World} {o : Oper} {key : Nat} {out : Out} {cl : Callee}

theorem Done.goes (h : Done cx s g a w o key out) : Goes cx s g a w o key out := by
  obtain ⟨n, v, w', g', hrun, hn, h1, h2, h3, h4⟩ := h
  intro next Q hnext
  unfold Oper.wp
  rw [hrun]
  rcases hn with rfl | ⟨rfl, rfl⟩
  · exact hnext v w' g' h1 h2 h3 h4
  · exact hnext undef w' g' h1 h2 h3 h4

/-! ### Writing a list of objects -/
theorem wsOn_append (h : Nat → Option AO) : ∀ (a b : List (Nat × Option AO)), wsOn h (a ++ b) = wsOn (wsOn h a) b
  | [], b => rfl
  | (i, o) :: a, b => by simp only [List.cons_append, wsOn]; exact wsOn_append _ a b

theorem wsOn_out : ∀ (ws : List (Nat × Option AO)) (h : Nat → Option AO) (n : Nat), (∀ p ∈ ws, p.1 ≠ n) → wsOn h ws n = h n
  | [], h, n, _ => rfl
  | (i, o) :: ws, h, n, hn => by
    simp only [wsOn]
    rw [wsOn_out ws _ n (fun p hp => hn p (List.mem_cons_of_mem _ hp))]
    have : i ≠ n := hn (i, o) List.mem_cons_self
    simp [upd, Ne.symm this]

theorem wsOn_in : ∀ (ws : List (Nat × Option AO)) (h : Nat → Option AO), (ws.map (·.1)).Nodup → ∀ p ∈ ws, wsOn h ws p.1 = p.2
  | [], h, _, p, hp => by simp at hp
  | (i, o) :: ws, h, hn, p, hp => by
    simp only [List.map_cons, List.nodup_cons] at hn
    rcases List.mem_cons.1 hp with rfl | hp
    · simp only [wsOn]
      rw [wsOn_out]
      · simp [upd]
      · intro q hq e
        exact hn.1 (List.mem_map.2 ⟨q, hq, e⟩)
    · simp only [wsOn]
      exact wsOn_in ws _ hn.2 p hp

theorem nodup_idx {l : List Nat} (h : l.Nodup) {i j x : Nat} (hi : l[i]? = some x) (hj : l[j]? = some x) : i = j := by
  have e1 := (List.getElem?_eq_some_iff.1 hi).2
  have e2 := (List.getElem?_eq_some_iff.1 hj).2
  have hpw := List.pairwise_iff_getElem.1 h
  rcases Nat.lt_trichotomy i j with h1 | h1 | h1
  · exact absurd (e1.trans e2.symm) (hpw i j _ _ h1)
  · exact h1
  · exact absurd (e2.trans e1.symm) (hpw j i _ _ h1)

theorem Seg.nodup {I N : Nat → Prop} {gv : Nat → Value} {gf : Nat → Nat → Prop} {k : Nat} {ws : List (Nat × Option AO)} {F : Nat → Prop} (h : Seg w I N gv gf k ws F) : (ws.map (·.1)).Nodup := by
  refine List.pairwise_iff_getElem.2 (fun i j hi hj hlt e => ?_)
  simp only [List.length_map] at hi hj
  simp only [List.getElem_map] at e
  have h1 := h.nums i ws[i] (List.getElem?_eq_getElem hi)
  have h2 := h.nums j ws[j] (List.getElem?_eq_getElem hj)
  omega

/-- Behind the call, in the caller. -/
theorem goes_post (m : Mem cx s.heap s.ep g w) (hkey : ∀ id, g.used id → ¬ (key ≤ id ∧ id < key + 64)) {ids : List Nat} {objs : List AO} (hnd : ids.Nodup) (hlen : ids.length = objs.length)
    (hobj : ∀ (k i : Nat) (o' : AO), ids[k]? = some i → objs[k]? = some o' → GObj s.heap (Seen cx s.heap s.ep g w ids objs) i o') {w' : World} {v : Value} {r : AV} {outs : List (Option AO)} {I N S : Nat → Prop} {fo : Nat → Nat → Prop}
    (p : Post (calleeCx cx s.heap g w ids objs) w' v r outs I N S fo) (hcnt : (openR key r).2.length + (takeBack (key + (openR key r).2.length) ids outs).2.length ≤ 64)
    (hout : out = ⟨(openR key r).1, (takeBack (key + (openR key r).2.length) ids outs).1 ++ ((openR key r).2 ++ (takeBack (key + (openR key r).2.length) ids outs).2), !ids.isEmpty⟩) :
    ∃ g', Keeps w cx.R g s.heap s.ep w' g' (wsOn s.heap out.ws) (if out.bump then s.ep + 1 else s.ep) ∧ Mem cx (wsOn s.heap out.ws) (if out.bump then s.ep + 1 else s.ep) g' w' ∧
      SRel cx.num w' cx.R g' (wsOn s.heap out.ws) (if out.bump then s.ep + 1 else s.ep) v out.v ∧ ∀ id, g'.used id → g.used id ∨ (key ≤ id ∧ id < key + 64) := by
  subst hout
  have hlo : ids.length = outs.length := p.len.symm
  obtain ⟨gv1, gf1, av1, af1, sg1, rv⟩ := openR_seg p.res g.v g.fp key
  obtain ⟨gv2, gf2, hf, av2, af2, sg2, hd, ap⟩ := takeBack_seg hlo (fun k o h => (p.out k o h).1) (fun k l x hk hl' => p.disO k l x hk hl') gv1 gf1 (key + (openR key r).2.length)
  generalize hrw : (openR key r).2 = rws at *
  generalize hrv : (openR key r).1 = rv0 at *
  generalize hb1 : (takeBack (key + rws.length) ids outs).1 = heads at *
  generalize hb2 : (takeBack (key + rws.length) ids outs).2 = news at *
  have sg := sg1.append sg2 av2 af2 (fun x hx ⟨k, hk, hx2⟩ => p.disS k x hk hx hx2)
  have av : Agree g.v gv2 key (rws ++ news).length := by rw [List.length_append]; exact av1.append av2
  have hall : (rws ++ news).length ≤ 64 := by rw [List.length_append]; exact hcnt
  have hidlt : ∀ i ∈ ids, (∃ o, s.heap i = some o) ∧ ¬ (key ≤ i ∧ i < key + 64) := by
    intro i hi
    obtain ⟨k, hk⟩ := List.getElem?_of_mem hi
    have hk1 := (List.getElem?_eq_some_iff.1 hk).1
    have := hobj k i _ hk (List.getElem?_eq_getElem (by omega))
    have hex : ∃ o, s.heap i = some o := by
      rcases this with ⟨sz, xs, _, h2⟩ | ⟨cs, ds, _, h2, _⟩
      · exact ⟨_, h2⟩
      · exact ⟨_, h2⟩
    obtain ⟨o, ho⟩ := hex
    exact ⟨⟨o, ho⟩, hkey i (m.used i o ho)⟩
  have hheadmem : ∀ q ∈ heads, q.1 ∈ ids := by
    intro q hq
    obtain ⟨k, hk⟩ := List.getElem?_of_mem hq
    exact List.mem_of_getElem? (hd.num k q hk)
  have hheadnd : (heads.map (·.1)).Nodup := by
    have he : heads.map (·.1) = ids := by
      apply List.ext_getElem?
      intro k
      rw [List.getElem?_map]
      cases hk : heads[k]? with
      | none =>
        have := List.getElem?_eq_none_iff.1 hk
        rw [hd.size] at this
        rw [List.getElem?_eq_none_iff.2 this]; rfl
      | some q => rw [hd.num k q hk]; rfl
    rw [he]; exact hnd
  have hnewr : ∀ q ∈ rws ++ news, key ≤ q.1 ∧ q.1 < key + (rws ++ news).length := sg.range
  -- the heap behind the call
  let h' := wsOn s.heap (heads ++ (rws ++ news))
  have hnew : ∀ q ∈ rws ++ news, h' q.1 = q.2 := fun q hq => by
    show wsOn s.heap (heads ++ (rws ++ news)) q.1 = q.2
    rw [wsOn_append]; exact wsOn_in _ _ sg.nodup q hq
  have hhead : ∀ q ∈ heads, h' q.1 = q.2 := fun q hq => by
    show wsOn s.heap (heads ++ (rws ++ news)) q.1 = q.2
    rw [wsOn_append, wsOn_out _ _ _ (fun n hn e => ?_)]
    · exact wsOn_in _ _ hheadnd q hq
    · have h1 := hnewr n hn
      have h2 := (hidlt q.1 (hheadmem q hq)).2
      omega
  have hrest : ∀ n, n ∉ ids → ¬ (key ≤ n ∧ n < key + (rws ++ news).length) → h' n = s.heap n := fun n h1 h2 => by
    show wsOn s.heap (heads ++ (rws ++ news)) n = s.heap n
    have e1 : ∀ q ∈ rws ++ news, q.1 ≠ n := fun q hq e => h2 (by rw [← e]; exact hnewr q hq)
    have e2 : ∀ q ∈ heads, q.1 ≠ n := fun q hq e => h1 (by rw [← e]; exact hheadmem q hq)
    rw [wsOn_append, wsOn_out _ _ _ e1, wsOn_out _ _ _ e2]
  have hnumnew : ∀ n, key ≤ n → n < key + (rws ++ news).length → ∃ q ∈ rws ++ news, q.1 = n := fun n h1 h2 => by
    have hj : (rws ++ news)[n - key]? = some ((rws ++ news)[n - key]'(by omega)) := List.getElem?_eq_getElem (by omega)
    exact ⟨_, List.mem_of_getElem? hj, by have := sg.nums _ _ hj; omega⟩
  have hidk : ∀ i ∈ ids, ∃ (k : Nat) (q : Nat × Option AO), ids[k]? = some i ∧ heads[k]? = some q ∧ q.1 = i := fun i hi => by
    obtain ⟨k, hk⟩ := List.getElem?_of_mem hi
    have hk1 := (List.getElem?_eq_some_iff.1 hk).1
    have hq : heads[k]? = some (heads[k]'(by rw [hd.size]; exact hk1)) := List.getElem?_eq_getElem _
    have := hd.num k _ hq
    rw [hk] at this
    exact ⟨k, _, hk, hq, (Option.some.inj this).symm⟩
  let inNew : Nat → Prop := fun n => key ≤ n ∧ n < key + (rws ++ news).length
  -- who lives behind the call
  have hlive : ∀ n o1, (n ∈ ids ∨ inNew n) → h' n = some o1 → (inNew n ∧ n ∉ ids ∧ OObj w' I N gv2 key (key + (rws ++ news).length) (gv2 n) (gf2 n) o1 ∧ ∃ q ∈ rws ++ news, q.1 = n ∧ q.2 = some o1) ∨
      (¬ inNew n ∧ ∃ k o0, ids[k]? = some n ∧ outs[k]? = some (some o0) ∧ o0.alike o1 ∧ OObj w' I N gv2 key (key + (rws ++ news).length) (g.v n) (hf k) o1) := by
    intro n o1 hn ho
    by_cases hin : inNew n
    · obtain ⟨q, hq, hqn⟩ := hnumnew n hin.1 hin.2
      subst hqn
      rw [hnew q hq] at ho
      obtain ⟨o2, h1, h2⟩ := sg.obj q hq
      rw [h1] at ho
      obtain rfl := Option.some.inj ho
      refine .inl ⟨hin, fun hi => ?_, h2, q, hq, rfl, h1⟩
      have h3 := hin
      have h4 := (hidlt _ hi).2
      exact h4 ⟨h3.1, by have := h3.2; omega⟩
    · have hi := hn.resolve_right hin
      obtain ⟨k, q, hk, hq, hqn⟩ := hidk n hi
      subst hqn
      rw [hhead q (List.mem_of_getElem? hq)] at ho
      obtain ⟨o0, h1, h2, h3⟩ := hd.obj k q o1 hq ho
      refine .inr ⟨hin, k, o0, hk, h1, h2, ?_⟩
      have hgd : ids.getD k 0 = q.1 := by simp [List.getD, hk]
      have h4 : OObj w' I N gv2 (key + rws.length) (key + rws.length + news.length) (g.v q.1) (hf k) o1 := by
        have := h3
        simp only [calleeCx, hgd] at this
        exact this
      exact h4.mono (fun _ _ _ => rfl) (by omega) (by rw [List.length_append]; omega)
  let fp' : Nat → Nat → Prop := fun n x => (inNew n ∧ gf2 n x) ∨ (¬ inNew n ∧ ∃ k, ids[k]? = some n ∧ hf k x) ∨ (¬ inNew n ∧ n ∉ ids ∧ g.fp n x)
  let g' : Gh := ⟨gv2, fp', I, fun b => g.N b ∨ N b, fun n => g.used n ∨ inNew n⟩
  have hgv : ∀ n, ¬ inNew n → gv2 n = g.v n := fun n hn => av n (by
    by_cases h : n < key
    · exact .inl h
    · exact .inr (by by_cases h2 : key + (rws ++ news).length ≤ n; exact h2; exact absurd ⟨by omega, by omega⟩ hn))
  have hfpnew : ∀ n, inNew n → fp' n = gf2 n := fun n hn => funext fun x => propext (by simp [fp', hn])
  have hfphead : ∀ n k, ¬ inNew n → ids[k]? = some n → fp' n = hf k := fun n k hn hk => funext fun x => propext (by
    have hmem : n ∈ ids := List.mem_of_getElem? hk
    simp only [fp', hn, hmem, false_and, not_true, not_false_eq_true, true_and, and_false, or_false, false_or]
    constructor
    · rintro ⟨k', hk', hx⟩
      rw [nodup_idx hnd hk hk']; exact hx
    · exact fun hx => ⟨k, hk, hx⟩)
  have hfprest : ∀ n, ¬ inNew n → n ∉ ids → fp' n = g.fp n := fun n hn hi => funext fun x => propext (by
    simp only [fp', hn, hi, false_and, not_false_eq_true, true_and, false_or]
    constructor
    · rintro (⟨k, hk, _⟩ | h)
      · exact absurd (List.mem_of_getElem? hk) hi
      · exact h
    · exact fun h => .inr h)
  have hfoM : ∀ k x, k < ids.length → fo k x → (GivenB s.heap g ids x ∨ w.heap.size ≤ x) ∧ ¬ I x := fun k x hk hx => p.mineO k x hk hx
  have hgf2 : ∀ n, inNew n → ∀ x, gf2 n x → (GivenB s.heap g ids x ∨ w.heap.size ≤ x) ∧ ¬ I x := fun n hn x hx => by
    obtain ⟨q, hq, rfl⟩ := hnumnew n hn.1 hn.2
    rcases sg.inF q hq x hx with h1 | ⟨k, hk, h1⟩
    · exact p.mineS x h1
    · exact hfoM k x hk h1
  have hGOf : ∀ x, GivenB s.heap g ids x → Of (fun n => n ∈ ids ∨ inNew n) s.heap g x := fun x ⟨id, o, h1, h2, h3⟩ => ⟨id, o, .inl h1, h2, h3⟩
  have t : Touch cx (fun n => n ∈ ids ∨ inNew n) s.heap s.ep g w h' (if !ids.isEmpty then s.ep + 1 else s.ep) g' w' := by
    refine ⟨p.frame.os, p.frame.tape, p.frame.output, p.frame.size, by split <;> omega, ?_, ?_, fun _ h => .inl h, ?_, ?_, ?_, ?_, p.I_up, ?_, fun b hb => .inr (p.I_N b hb), fun _ h => .inl h, ?_, ?_⟩
    · intro n hT
      have h1 : n ∉ ids := fun e => hT (.inl e)
      have h2 : ¬ inNew n := fun e => hT (.inr e)
      exact ⟨hrest n h1 h2, fun _ => ⟨hgv n h2, hfprest n h2 h1⟩⟩
    · intro b hb hO
      exact p.frame.block b hb (fun hG => hO (hGOf b hG))
    · intro n o1 hT ho
      rcases hT with hi | hi
      · obtain ⟨⟨o, ho2⟩, _⟩ := hidlt n hi
        exact .inl (m.used n o ho2)
      · exact .inr hi
    · intro n o1 hT hu ho
      have hlt := hkey n hu
      rcases hlive n o1 hT ho with ⟨h1, _⟩ | ⟨h1, k, o0, hk, h2, h3, _⟩
      · exact absurd ⟨h1.1, by have := h1.2; omega⟩ hlt
      · obtain ⟨_, o00, h4, h5⟩ := p.out k o0 h2
        have h4' : objs[k]? = some o00 := by
          have : startHeap objs 0 k = some o00 := h4
          rwa [startHeap_get, if_pos (Nat.zero_le _), Nat.sub_zero] at this
        have hg := hobj k n o00 hk h4'
        rcases hg with ⟨sz, xs, rfl, h6⟩ | ⟨cs, ds, rfl, h6, _⟩
        · exact ⟨_, h6, h5.trans h3, hgv n h1⟩
        · refine ⟨_, h6, AO.alike.trans (p := .box ds) trivial (h5.trans h3), hgv n h1⟩
    · intro n o1 b hT ho hf1
      rcases hlive n o1 hT ho with ⟨h1, h2, _⟩ | ⟨h1, k, o0, hk, _⟩
      · have hf2 : gf2 n b := by rw [← hfpnew n h1]; exact hf1
        obtain ⟨h5, h6⟩ := hgf2 n h1 b hf2
        exact ⟨h5.symm.imp id (hGOf b), h6⟩
      · have hf2 : hf k b := by rw [← hfphead n k h1 hk]; exact hf1
        have hk1 := (List.getElem?_eq_some_iff.1 hk).1
        obtain ⟨h5, h6⟩ := hfoM k b hk1 (hd.inF k hk1 b hf2)
        exact ⟨h5.symm.imp id (hGOf b), h6⟩
    · intro n n' o1 o2 b hT hT' ho ho' hf1 hf2
      have newHead : ∀ n, inNew n → ∀ k, k < ids.length → gf2 n b → hf k b → False := by
        intro n hn k hk hx hx2
        obtain ⟨q, hq, rfl⟩ := hnumnew n hn.1 hn.2
        rcases List.mem_append.1 hq with hq | hq
        · have hr := sg1.range q hq
          rw [af2 q.1 (.inl hr.2)] at hx
          exact p.disS k b hk (sg1.inF q hq b hx) (hd.inF k hk b hx2)
        · exact ap k hk b hx2 q hq hx
      rcases hlive n o1 hT ho with ⟨h1, _⟩ | ⟨h1, k, o0, hk, _⟩ <;> rcases hlive n' o2 hT' ho' with ⟨h1', _⟩ | ⟨h1', k', o0', hk', _⟩
      · have e1 : gf2 n b := by rw [← hfpnew n h1]; exact hf1
        have e2 : gf2 n' b := by rw [← hfpnew n' h1']; exact hf2
        obtain ⟨q, hq, rfl⟩ := hnumnew n h1.1 h1.2
        obtain ⟨q', hq', rfl⟩ := hnumnew n' h1'.1 h1'.2
        exact sg.dis q hq q' hq' b e1 e2
      · exact (newHead n h1 k' (List.getElem?_eq_some_iff.1 hk').1 (by rw [← hfpnew n h1]; exact hf1) (by rw [← hfphead n' k' h1' hk']; exact hf2)).elim
      · exact (newHead n' h1' k (List.getElem?_eq_some_iff.1 hk).1 (by rw [← hfpnew n' h1']; exact hf2) (by rw [← hfphead n k h1 hk]; exact hf1)).elim
      · have e1 : hf k b := by rw [← hfphead n k h1 hk]; exact hf1
        have e2 : hf k' b := by rw [← hfphead n' k' h1' hk']; exact hf2
        have hk1 := (List.getElem?_eq_some_iff.1 hk).1
        have hk1' := (List.getElem?_eq_some_iff.1 hk').1
        have := p.disO k k' b hk1 hk1' (hd.inF k hk1 b e1) (hd.inF k' hk1' b e2)
        subst this
        rw [hk] at hk'
        exact Option.some.inj hk'
    · intro b hb
      rcases p.I_new b hb with h1 | h1 | h1
      · exact .inl h1
      · exact .inr (.inl (hGOf b h1))
      · exact .inr (.inr ⟨h1, p.N_lt b (p.I_N b hb)⟩)
    · rintro b (hb | hb)
      · exact .inl hb
      · rcases p.N_new b hb with (h1 | ⟨i, sz, xs, h1, h2, h3⟩) | h1
        · exact .inl (m.I_N b h1)
        · exact .inl ((m.objs i _ h2).2 b h3)
        · exact .inr ⟨h1, p.N_lt b hb⟩
    · intro he b hb
      have hemp : ids = [] := by
        cases ids with
        | nil => rfl
        | cons _ _ => simp at he
      refine p.frame.block b (m.N_lt b hb) ?_
      rintro ⟨i, o, h1, _⟩
      rw [hemp] at h1
      simp at h1
  have hsrel : ∀ {u : Value} {c : AV}, OpenRel gv2 key (key + (rws ++ news).length) w' I u c → u.oneCell' = true ∧ SRel cx.num w' cx.R g' h' (if !ids.isEmpty then s.ep + 1 else s.ep) u c := fun hr =>
    hr.srel (g := g') (fun n h1 h2 => ⟨rfl, .inr ⟨h1, h2⟩⟩) (fun _ h => h)
  have hOO : ∀ n S' o1, (∀ x, S' x → GivenB s.heap g ids x ∨ w.heap.size ≤ x) → OObj w' I N gv2 key (key + (rws ++ news).length) n S' o1 → ORel cx.num w' cx.R g' h' (if !ids.isEmpty then s.ep + 1 else s.ep) n S' o1 := by
    intro n S' o1 hS' ho
    cases o1 with
    | arr sz xs => exact ⟨ho.1, fun x hx => .inr (ho.2 x hx)⟩
    | map _ _ => exact ho.elim
    | box cells =>
      obtain ⟨b, cur, e, h1, h2, h3, h4, h5, h6⟩ := ho
      refine ⟨b, cur, e, h1, h2, h3, h4, ?_, fun i u c hu hc => hsrel (h6 i u c hu hc)⟩
      rintro (hN | hN)
      · rcases hS' b ((h4 b).2 rfl) with ⟨i, oi, h7, h8, h9⟩ | h7
        · cases oi with
          | arr sz xs => exact h5 (p.N_up b (.inr ⟨i, sz, xs, h7, h8, h9⟩))
          | box cs =>
            obtain ⟨b', _, _, _, _, _, h10, h11, _⟩ := m.objs i _ h8
            rw [(h10 b).1 h9] at hN
            exact h11 hN
          | map kb kvs =>
            obtain ⟨b', _, _, _, _, h10, h11, _⟩ := m.objs i _ h8
            rw [(h10 b).1 h9] at hN
            exact h11 hN
        · have := m.N_lt b hN; omega
      · exact h5 hN
  refine ⟨g', t.keeps m, t.mem m (fun n o1 hT ho => ?_), ?_, ?_⟩
  · rcases hlive n o1 hT ho with ⟨h1, _, h3, _⟩ | ⟨h1, k, o0, hk, _, _, h4⟩
    · show ORel cx.num w' cx.R g' h' _ (gv2 n) (fp' n) o1
      rw [hfpnew n h1]
      exact hOO _ _ _ (fun x hx => (hgf2 n h1 x hx).1) h3
    · show ORel cx.num w' cx.R g' h' _ (gv2 n) (fp' n) o1
      rw [hfphead n k h1 hk, hgv n h1]
      have hk1 := (List.getElem?_eq_some_iff.1 hk).1
      exact hOO _ _ _ (fun x hx => (hfoM k x hk1 (hd.inF k hk1 x hx)).1) h4
  · refine rv.srel (g := g') (fun n h1 h2 => ⟨av2 n (.inl h2), .inr ⟨h1, by rw [List.length_append]; omega⟩⟩) (fun _ h => h) ?_
    rintro n ⟨cells, hc⟩ o1 ho
    have hq : (n, some (AO.box cells)) ∈ rws ++ news := List.mem_append.2 (.inl hc)
    have := hnew _ hq
    have ho' : h' n = some o1 := ho
    rw [this] at ho'
    exact ⟨cells, (Option.some.inj ho').symm⟩
  · rintro id (h1 | h1)
    · exact .inl h1
    · exact .inr ⟨h1.1, by have := h1.2; omega⟩

theorem goes_call (m : Mem cx s.heap s.ep g w) (hkey : ∀ id, g.used id → ¬ (key ≤ id ∧ id < key + 64)) {c : Call} {x : Operand} {f : FuncId} {k : Nat} {modes : List Bool} {ys : List Opd} (ho : o.op = .call c) (hce : c.callee = .value x) (hx : a.eval x = .func (.func f) #[] #[])
    (hsz : c.args.size = ys.length) (hargs : ∀ (i : Nat) (xo : Operand) (y : Opd), c.args[i]? = some xo → ys[i]? = some y → SRel cx.num w cx.R g s.heap s.ep (a.eval xo) (y.ev s.slots))
    (hC : ∀ args objs r outs, cl k args objs = some (r, outs) → Contract cx.P cx.num f args objs r outs) (h : semCall cl k modes (evL s.slots ys) key s.heap s.ep = some out) : Goes cx s g a w o key out := by
  unfold semCall at h
  cases hp : passArgs s.heap s.ep 0 modes (evL s.slots ys) with
  | none => rw [hp] at h; cases h
  | some G =>
    rw [hp] at h
    simp only at h
    split at h
    case isFalse => cases h
    rename_i hcond
    simp only [Bool.and_eq_true, List.all_eq_true, Bool.not_eq_true', List.contains_eq_mem, decide_eq_false_iff_not, Bool.or_eq_true, List.isEmpty_iff] at hcond
    obtain ⟨⟨hd, hlk⟩, hsn⟩ := hcond
    have hnd := distinct_nodup hd
    cases hcl : cl k G.args G.objs with
    | none => rw [hcl] at h; cases h
    | some q =>
      obtain ⟨r, outs⟩ := q
      rw [hcl] at h
      simp only at h
      split at h
      case isFalse => cases h
      rename_i hlo
      split at h
      case isFalse => cases h
      rename_i hcnt
      obtain ⟨l1, l2, a1, s1⟩ := passArgs_seen (ids := G.ids) (objs := G.objs) m hp (fun j i hj => by simpa using hj) (fun k o' hk => by simpa using hk) (fun i hi hm => hlk i hm hi) (hsn.imp id fun h => by simpa using h)
      have hevg : ∀ (l : List Opd) (i : Nat) (y : Opd), l[i]? = some y → (evL s.slots l)[i]? = some (y.ev s.slots) := by
        intro l
        induction l with
        | nil => intro i y hi; simp at hi
        | cons z l ih =>
          intro i y hi
          cases i with
          | zero => simp only [List.getElem?_cons_zero, Option.some.injEq] at hi; subst hi; rfl
          | succ i => exact ih i y (by simpa using hi)
      have hcm := callee_mem m l1 hnd a1
      have hcon := hC G.args G.objs r outs hcl (calleeCx cx s.heap g w G.ids G.objs) (calleeGh s.heap g G.ids) w (c.args.map a.eval) rfl rfl rfl l1 rfl rfl (fun id hid => by rw [← l1]; exact hid) hcm (by rw [l2, evL_length]; simpa using hsz)
        (fun i v d hv hdd => by
          rw [Array.getElem?_map] at hv
          cases hxo : c.args[i]? with
          | none => rw [hxo] at hv; cases hv
          | some xo =>
            rw [hxo] at hv
            simp only [Option.map_some, Option.some.injEq] at hv
            have hi := (Array.getElem?_eq_some_iff.1 hxo).1
            have hy : ys[i]? = some (ys[i]'(by omega)) := List.getElem?_eq_getElem (by omega)
            exact s1 i _ d (hevg ys i _ hy) hdd v (hv ▸ hargs i xo _ hxo hy))
      intro next Q hnext
      have hrun : (execOp a.eval o).run cx.P w = (callFunc f (c.args.map a.eval)).run cx.P w := by
        simp [execOp, ho, resolve, hce, hx, Deferred.ofValue, invoke]
      unfold Oper.wp
      rw [hrun]
      refine hcon o a next Q ?_
      rintro v w' ⟨I, N, S, fo, hpost⟩
      obtain ⟨g', h1, h2, h3, h4⟩ := goes_post (out := out) m hkey hnd l1 a1 hpost hcnt (Option.some.inj h).symm
      exact hnext v w' g' h1 h2 h3 h4
end
end Go.Proofs.Ytfebkfeobdffjaa
