/- Each operation of the model does what the abstract machine's does: those that make memory. -/
import Derived.Test.YtfebkfeobdffjaaOpt
import Derived.Laws.OwnMore
import Derived.Laws.MakeOwn
namespace Go.Proofs.Ytfebkfeobdffjaa
open Go Go.RowKit
set_option linter.unusedSimpArgs false

/-! ### The heap's writes, as a function -/
theorem wsOn_kill (h : Nat → Option AO) (is : List Nat) : ∀ id, wsOn h (kill is) id = if id ∈ is then none else h id := by
  induction is generalizing h with
  | nil => intro id; simp [kill, wsOn]
  | cons i is ih =>
    intro id
    simp only [kill, List.map_cons, wsOn] at ih ⊢
    rw [ih]
    simp only [upd, List.mem_cons]
    by_cases h1 : id ∈ is
    · simp [h1]
    · by_cases h2 : id = i <;> simp [h1, h2]

/-- A world with one block more. -/
structure Pushed (w w1 : World) (ob : Obj) : Prop where
  heap : w1.heap = w.heap.push ob
  os : w1.os = w.os
  tape : w1.tape = w.tape
  output : w1.output = w.output

theorem Pushed.new {w w1 : World} {ob : Obj} (p : Pushed w w1 ob) : w1.heap[w.heap.size]? = some ob := by rw [p.heap]; simp
theorem Pushed.old {w w1 : World} {ob : Obj} (p : Pushed w w1 ob) {b : Nat} (h : b < w.heap.size) : w1.heap[b]? = w.heap[b]? := by
  rw [p.heap, Array.getElem?_push, if_neg (by omega)]
theorem Pushed.size {w w1 : World} {ob : Obj} (p : Pushed w w1 ob) : w1.heap.size = w.heap.size + 1 := by rw [p.heap]; simp
theorem Pushed.drewAlloc (w : World) (ob : Obj) : Pushed w (w.drew.alloc ob) ob := ⟨rfl, rfl, rfl, rfl⟩
theorem Pushed.alloc (w : World) (ob : Obj) : Pushed w (w.alloc ob) ob := ⟨rfl, rfl, rfl, rfl⟩

def newGh (g : Gh) (w : World) (key : Nat) (v : Value) (F : Nat → Prop) (arr : Bool) : Gh :=
  ⟨upd g.v key v, upd g.fp key F, g.I, fun b => g.N b ∨ (arr = true ∧ b = w.heap.size), fun id => g.used id ∨ id = key⟩

/-- A new object; some that were there have gone into it. -/
theorem touch_new {cx : Cx} {h : Nat → Option AO} {ep ep' : Nat} {g : Gh} {w w1 : World} (m : Mem cx h ep g w) {key : Nat} (hk : ¬ g.used key) {is : List Nat} (his : ∀ i ∈ is, ∃ o, h i = some o) {o : AO} {v : Value} {F : Nat → Prop} {ob : Obj} {arr : Bool}
    (p : Pushed w w1 ob) (hep : ep ≤ ep') (hF : ∀ b, F b → b = w.heap.size ∨ ∃ i oi, i ∈ is ∧ h i = some oi ∧ g.fp i b) :
    Touch cx (fun id => id = key ∨ id ∈ is) h ep g w (fun id => if id ∈ is then none else if id = key then some o else h id) ep' (newGh g w key v F arr) w1 := by
  have hkey : key ∉ is := fun hm => by obtain ⟨o', ho'⟩ := his key hm; exact hk (m.used key o' ho')
  refine ⟨p.os, p.tape, p.output, by rw [p.size]; omega, hep, ?_, ?_, fun id h => .inl h, ?_, ?_, ?_, ?_, fun _ h => h, fun _ h => .inl h, fun b hb => .inl (m.I_N b hb), fun _ h => .inl h, ?_, ?_⟩
  · intro id hT
    have h1 : id ≠ key := fun e => hT (.inl e)
    have h2 : id ∉ is := fun e => hT (.inr e)
    simp [h1, h2, newGh, upd]
  · intro b hb _
    exact p.old hb
  · intro id o' hT ho
    by_cases h2 : id ∈ is
    · simp [h2] at ho
    · exact .inr (hT.resolve_right h2)
  · intro id o' hT hu ho
    by_cases h2 : id ∈ is
    · simp [h2] at ho
    · exact absurd (hT.resolve_right h2 ▸ hu) hk
  · intro id o' b hT ho hf
    by_cases h2 : id ∈ is
    · simp [h2] at ho
    · have he := hT.resolve_right h2
      subst he
      have hf' : F b := by simpa [newGh, upd] using hf
      rcases hF b hf' with h3 | ⟨i, oi, hi, hoi, hfi⟩
      · exact ⟨.inl (by omega), fun hI => by have := m.I_lt b hI; omega⟩
      · exact ⟨.inr ⟨i, oi, .inr hi, hoi, hfi⟩, (m.mine i oi b hoi hfi).2⟩
  · intro id id' o' o'' b hT hT' ho ho' _ _
    have h2 : id ∉ is := fun e => by simp [e] at ho
    have h3 : id' ∉ is := fun e => by simp [e] at ho'
    exact (hT.resolve_right h2).trans (hT'.resolve_right h3).symm
  · intro b hb
    rcases hb with hb | ⟨_, hb⟩
    · exact .inl hb
    · exact .inr ⟨by omega, by rw [p.size]; omega⟩
  · intro _ b hb
    exact p.old (m.N_lt b hb)

section
variable {cx : Cx} {s : St} {g : Gh} {a : Act} {w : World} {o : Oper} {key : Nat} {out : Out} {cl : Callee}

/-- A new variable. -/
theorem done_box_at (m : Mem cx s.heap s.ep g w) (hk : ¬ g.used key) {us : Array Value} {cs : List AV} {e : TypeId} (hc : CellsRel cx.num w cx.R g s.heap s.ep us cs)
    (hrun : (execOp a.eval o).run cx.P w = .ok (.value (.pointer (some ⟨w.heap.size, 0, none⟩))) (w.alloc (.cells us e))) (h : out = ⟨.ptr key 0 0, [(key, some (.box cs))], false⟩) : Done cx s g a w o key out := by
  subst h
  have hh : wsOn s.heap [(key, some (.box cs))] = fun id => if id ∈ ([] : List Nat) then none else if id = key then some (.box cs) else s.heap id := by
    funext id; simp [wsOn, upd]
  have t := touch_new (ep' := s.ep) m hk (is := []) (by simp) (o := .box cs) (v := .pointer (some ⟨w.heap.size, 0, none⟩)) (F := fun b => b = w.heap.size) (arr := false) (Pushed.alloc w (.cells us e)) (Nat.le_refl _) (fun b hb => .inl hb)
  have k := t.keeps m
  refine ⟨_, _, _, newGh g w key (.pointer (some ⟨w.heap.size, 0, none⟩)) (fun b => b = w.heap.size) false, hrun, .inl rfl, ?_, ?_, ?_, ?_⟩
  · simp only [hh]; exact k
  · simp only [hh]
    refine t.mem m (fun id o' hT ho => ?_)
    have he : id = key := by simpa using hT
    subst he
    simp at ho
    subst ho
    simp only [newGh, upd, if_true]
    refine ⟨w.heap.size, us, e, rfl, (Pushed.alloc w _).new, hc.1, fun x => Iff.rfl, ?_, fun i u c hu hi => ⟨(hc.2 i u c hu hi).1, (hc.2 i u c hu hi).2.mono k⟩⟩
    rintro (hN | ⟨h0, _⟩)
    · have := m.N_lt _ hN; omega
    · cases h0
  · simp only [hh]
    refine .ptr _ _ _ _ rfl (.inr rfl) (fun o' ho => ?_)
    simp at ho
    subst ho
    simp only [newGh, upd, if_true]
    exact ⟨_, rfl, rfl⟩
  · intro id hu
    rcases hu with hu | rfl
    · exact .inl hu
    · exact .inr ⟨Nat.le_refl _, by omega⟩

theorem done_alloc (m : Mem cx s.heap s.ep g w) (hk : ¬ g.used key) {t : TypeId} {i0 : TypeInfo} {z : Value} {zs : List AV} (ho : o.op = .alloc t) (hi : cx.P.info? t = some i0) (hz : i0.zero = some z) (hzr : CellsRel cx.num w cx.R g s.heap s.ep z.cells zs)
    (h : sem cl (.alloc zs) key s.slots s.heap s.ep = some out) : Done cx s g a w o key out := by
  simp only [sem, Option.some.injEq] at h
  refine done_box_at m hk hzr (e := t) ?_ h.symm
  simp [execOp, ho, Instr.alloc, zeroValue, typeInfo, hi, hz, newVar, newRow]

theorem done_box (m : Mem cx s.heap s.ep g w) (hk : ¬ g.used key) {t : TypeId} {x : Operand} {y : Opd} (ho : o.op = .box t x) (h1 : SRel cx.num w cx.R g s.heap s.ep (a.eval x) (y.ev s.slots))
    (h : sem cl (.box y) key s.slots s.heap s.ep = some out) : Done cx s g a w o key out := by
  simp only [sem] at h
  cases hp : (y.ev s.slots).parts with
  | none => rw [hp] at h; cases h
  | some vs =>
    rw [hp] at h
    simp only [Option.some.injEq] at h
    refine done_box_at m hk (parts_rel h1 hp) (e := t) ?_ h.symm
    simp [execOp, ho, Instr.box, newVar, newRow]

/-! ### Arrays -/
/-- The number in a slot that moves into an array. -/
def refId : AV → List Nat
  | .ref id => [id]
  | _ => []

/-- A cell as an array holds it: of an array that moved in (its number), or by itself. -/
def CellIn (h : Nat → Option AO) (g : Gh) (w : World) (u : Value) (c : AV) : Option Nat → Prop
  | some id => ∃ sz xs, h id = some (.arr sz xs) ∧ c = .sl .own sz xs ∧ u = g.v id
  | none => Cl w g.I u c (fun _ => False)

theorem absorb1_rel {num : Nat → Option FuncId} {w : World} {R : Nat → Prop} {g : Gh} {h : Nat → Option AO} {ep : Nat} {u : Value} {x c : AV} {is : List Nat} (hr : SRel num w R g h ep u x) (ha : absorb1 h x = some (c, is)) :
    is = refId x ∧ CellIn h g w u c (refId x).head? := by
  cases x <;> simp only [absorb1, reduceCtorEq, Option.some.injEq, Prod.mk.injEq] at ha
  · obtain ⟨rfl, rfl⟩ := ha; cases hr; exact ⟨rfl, .bool _ _ (fun _ h => h)⟩
  · obtain ⟨rfl, rfl⟩ := ha; cases hr; exact ⟨rfl, .int _ _ _ (fun _ h => h)⟩
  · obtain ⟨rfl, rfl⟩ := ha; cases hr; exact ⟨rfl, .str _ _ (fun _ h => h)⟩
  · rename_i md sz xs
    cases md with
    | own => cases xs with
      | nil =>
        simp only [Option.some.injEq, Prod.mk.injEq] at ha
        obtain ⟨rfl, rfl⟩ := ha
        cases hr with
        | nil => exact ⟨rfl, .nil _ _ (fun _ h => h)⟩
        | sl _ _ _ _ _ _ _ hown => exact absurd rfl hown
      | cons _ _ => simp at ha
    | imm =>
      have hb : c = .sl .imm sz xs ∧ is = [] := by cases xs <;> simp_all
      obtain ⟨rfl, rfl⟩ := hb
      cases hr with
      | sl _ _ _ _ _ hm => exact ⟨rfl, .imm _ _ _ _ (hm rfl) (fun _ h => h)⟩
    | bor => cases xs <;> simp at ha
    | snap e => cases xs <;> simp at ha
  · rename_i id
    cases hh : h id with
    | none => rw [hh] at ha; cases ha
    | some ob =>
      rw [hh] at ha
      cases ob <;> simp only [reduceCtorEq, Option.some.injEq, Prod.mk.injEq] at ha
      obtain ⟨rfl, rfl⟩ := ha
      cases hr with
      | ref _ _ _ _ hv => exact ⟨rfl, _, _, hh, rfl, hv _ hh⟩

theorem absorb_rel {num : Nat → Option FuncId} {w : World} {R : Nat → Prop} {g : Gh} {h : Nat → Option AO} {ep : Nat} : ∀ {vs cs : List AV} {is : List Nat}, absorb h vs = some (cs, is) →
    cs.length = vs.length ∧ is = vs.flatMap refId ∧ ∀ (j : Nat) (u : Value) (x c : AV), vs[j]? = some x → cs[j]? = some c → SRel num w R g h ep u x → CellIn h g w u c (refId x).head?
  | [], cs, is, ha => by
    simp only [absorb, Option.some.injEq, Prod.mk.injEq] at ha
    obtain ⟨rfl, rfl⟩ := ha
    exact ⟨rfl, rfl, fun j u x c hx => by simp at hx⟩
  | x :: vs, cs, is, ha => by
    simp only [absorb] at ha
    cases h1 : absorb1 h x with
    | none => rw [h1] at ha; cases ha
    | some p =>
      obtain ⟨d, i⟩ := p
      rw [h1] at ha
      cases h2 : absorb h vs with
      | none => rw [h2] at ha; cases ha
      | some q =>
        obtain ⟨ds, js⟩ := q
        rw [h2] at ha
        simp only [Option.some.injEq, Prod.mk.injEq] at ha
        obtain ⟨rfl, rfl⟩ := ha
        obtain ⟨hl, hj, hc⟩ := absorb_rel (num := num) (w := w) (R := R) (g := g) (ep := ep) h2
        have hi : i = refId x := by
          cases x <;> simp only [absorb1, reduceCtorEq, Option.some.injEq, Prod.mk.injEq] at h1 <;> try (obtain ⟨_, rfl⟩ := h1; rfl)
          · rename_i md sz xs
            cases md <;> cases xs <;> simp_all [refId]
          · rename_i id
            cases hh : h id with
            | none => rw [hh] at h1; cases h1
            | some ob =>
              rw [hh] at h1
              cases ob <;> simp only [reduceCtorEq, Option.some.injEq, Prod.mk.injEq] at h1
              exact h1.2.symm
        refine ⟨by simp [hl], by rw [List.flatMap_cons, hi, hj], fun j u y c hy hcj hr => ?_⟩
        cases j with
        | zero =>
          simp only [List.getElem?_cons_zero, Option.some.injEq] at hy hcj
          subst hy; subst hcj
          exact (absorb1_rel hr h1).2
        | succ j => exact hc j u y c (by simpa using hy) (by simpa using hcj) hr

theorem distinct_nodup : ∀ {is : List Nat}, distinct is = true → is.Nodup
  | [], _ => List.nodup_nil
  | i :: is, h => by
    simp only [distinct, Bool.and_eq_true, Bool.not_eq_true', List.contains_eq_mem, decide_eq_false_iff_not] at h
    exact List.nodup_cons.2 ⟨h.1, distinct_nodup h.2⟩

/-- In a list whose numbers are all different, one number stands at one place. -/
theorem flat_inj : ∀ {vs : List AV}, (vs.flatMap refId).Nodup → ∀ {j j' id : Nat} {x y : AV}, vs[j]? = some x → vs[j']? = some y → id ∈ refId x → id ∈ refId y → j = j'
  | [], _, j, _, _, _, _, hx, _, _, _ => by simp at hx
  | v :: vs, hn, j, j', id, x, y, hx, hy, hix, hiy => by
    rw [List.flatMap_cons, List.nodup_append] at hn
    obtain ⟨_, h2, h3⟩ := hn
    cases j with
    | zero => cases j' with
      | zero => rfl
      | succ j' =>
        simp only [List.getElem?_cons_zero, Option.some.injEq] at hx
        subst hx
        exact absurd rfl (h3 id hix id (List.mem_flatMap.2 ⟨y, List.mem_of_getElem? (by simpa using hy), hiy⟩))
    | succ j => cases j' with
      | zero =>
        simp only [List.getElem?_cons_zero, Option.some.injEq] at hy
        subst hy
        exact absurd rfl (h3 id hiy id (List.mem_flatMap.2 ⟨x, List.mem_of_getElem? (by simpa using hx), hix⟩))
      | succ j' => exact congrArg (· + 1) (flat_inj h2 (id := id) (x := x) (y := y) (by simpa using hx) (by simpa using hy) hix hiy)

/-- Rows of cells, each with its blocks. -/
structure Rows (w : World) (I : Nat → Prop) (sz : Nat) (xs : List (List AV)) (us : Nat → Nat → Value) (fs : Nat → Nat → Nat → Prop) : Prop where
  row : ∀ row ∈ xs, row.length = sz
  cl : ∀ i j c, cellAt xs i j = some c → Cl w I (us i j) c (fs i j)
  dis : ∀ i j c i' j' c' x, cellAt xs i j = some c → cellAt xs i' j' = some c' → fs i j x → fs i' j' x → i = i' ∧ j = j'

/-- All blocks of the rows. -/
def Fall (xs : List (List AV)) (fs : Nat → Nat → Nat → Prop) (x : Nat) : Prop := ∃ i j c, cellAt xs i j = some c ∧ fs i j x

theorem Rows.own {w w1 : World} {I : Nat → Prop} {sz : Nat} {xs : List (List AV)} {us : Nat → Nat → Value} {fs : Nat → Nat → Nat → Prop} (r : Rows w I sz xs us fs) {b cap : Nat} {cur : Array Value} {e : TypeId}
    (hheap : w1.heap[b]? = some (.cells cur e (0, 0))) (hcap : xs.length ≤ cap) (hmax : cap ≤ maxLen) (hcur : cap * sz ≤ cur.size) (hcell : ∀ i j c, cellAt xs i j = some c → cur[i * sz + j]? = some (us i j))
    (hsame : Same w w1 (Fall xs fs)) (hI : Same w w1 I) (hnot : ¬ Fall xs fs b) : Cl w1 I (.slice (some ⟨b, 0, none⟩) xs.length cap) (.sl .own sz xs) (fun x => x = b ∨ Fall xs fs x) :=
  .own sz xs b cap cur e us fs _ hheap hcap hmax hcur r.row hcell (fun i j c hc => (r.cl i j c hc).mono (fun x hx => hsame x ⟨i, j, c, hc, hx⟩) hI (fun _ h => h)) r.dis
    (fun i j c hc hf => hnot ⟨i, j, c, hc, hf⟩) (fun _ => Iff.rfl)

theorem Cl.rows {w : World} {I : Nat → Prop} {v : Value} {sz : Nat} {xs : List (List AV)} {S : Nat → Prop} (h : Cl w I v (.sl .own sz xs) S) :
    (v = .slice none 0 0 ∧ xs = [] ∧ ∀ x, ¬ S x) ∨ ∃ b cap cur e us fs, v = .slice (some ⟨b, 0, none⟩) xs.length cap ∧ w.heap[b]? = some (.cells cur e (0, 0)) ∧ xs.length ≤ cap ∧ cap ≤ maxLen ∧ cap * sz ≤ cur.size ∧
      (∀ i j c, cellAt xs i j = some c → cur[i * sz + j]? = some (us i j)) ∧ Rows w I sz xs us fs ∧ ¬ Fall xs fs b ∧ ∀ x, S x ↔ x = b ∨ Fall xs fs x := by
  cases h with
  | nil _ _ hS => exact .inl ⟨rfl, rfl, hS⟩
  | own _ _ b cap cur e us fs _ hheap hcap hmax hcur hrow hcell hin hdis hnot hS =>
    exact .inr ⟨b, cap, cur, e, us, fs, rfl, hheap, hcap, hmax, hcur, hcell, ⟨hrow, hin, hdis⟩, fun ⟨i, j, c, hc, hf⟩ => hnot i j c hc hf, hS⟩

theorem cellAt_append {xs ys : List (List AV)} {i j : Nat} : cellAt (xs ++ ys) i j = if i < xs.length then cellAt xs i j else cellAt ys (i - xs.length) j := by
  unfold cellAt
  rw [List.getElem?_append]
  split <;> rfl

theorem cellAt_lt {xs : List (List AV)} {i j : Nat} {c : AV} (h : cellAt xs i j = some c) : i < xs.length := by
  obtain ⟨row, h1, _⟩ := cellAt_some.1 h
  exact (List.getElem?_eq_some_iff.1 h1).1

theorem Rows.append {w : World} {I : Nat → Prop} {sz : Nat} {xs ys : List (List AV)} {us vs : Nat → Nat → Value} {fs gs : Nat → Nat → Nat → Prop} (r : Rows w I sz xs us fs) (q : Rows w I sz ys vs gs) (hd : ∀ x, Fall xs fs x → ¬ Fall ys gs x) :
    Rows w I sz (xs ++ ys) (fun i j => if i < xs.length then us i j else vs (i - xs.length) j) (fun i j => if i < xs.length then fs i j else gs (i - xs.length) j) := by
  refine ⟨fun row h => (List.mem_append.1 h).elim (r.row row) (q.row row), fun i j c hc => ?_, fun i j c i' j' c' x hc hc' hf hf' => ?_⟩
  · rw [cellAt_append] at hc
    by_cases hi : i < xs.length
    · simp only [hi, if_true] at hc ⊢; exact r.cl i j c hc
    · simp only [hi, if_false] at hc ⊢; exact q.cl _ j c hc
  · rw [cellAt_append] at hc hc'
    by_cases hi : i < xs.length <;> by_cases hi' : i' < xs.length <;> simp only [hi, hi', if_true, if_false] at hc hc' hf hf'
    · exact r.dis i j c i' j' c' x hc hc' hf hf'
    · exact absurd ⟨_, _, _, hc', hf'⟩ (hd x ⟨_, _, _, hc, hf⟩)
    · exact absurd ⟨_, _, _, hc, hf⟩ (hd x ⟨_, _, _, hc', hf'⟩)
    · obtain ⟨h1, h2⟩ := q.dis _ j c _ j' c' x hc hc' hf hf'
      exact ⟨by omega, h2⟩

theorem Fall.append {xs ys : List (List AV)} {fs gs : Nat → Nat → Nat → Prop} {x : Nat} (h : Fall (xs ++ ys) (fun i j => if i < xs.length then fs i j else gs (i - xs.length) j) x) : Fall xs fs x ∨ Fall ys gs x := by
  obtain ⟨i, j, c, hc, hf⟩ := h
  rw [cellAt_append] at hc
  by_cases hi : i < xs.length
  · simp only [hi, if_true] at hc hf; exact .inl ⟨_, _, _, hc, hf⟩
  · simp only [hi, if_false] at hc hf; exact .inr ⟨_, _, _, hc, hf⟩

/-- The rows' values, one behind the other. -/
def flatVals (n sz : Nat) (us : Nat → Nat → Value) : List Value := (List.range (n * sz)).map fun k => us (k / sz) (k % sz)

theorem flatVals_length (n sz : Nat) (us : Nat → Nat → Value) : (flatVals n sz us).length = n * sz := by simp [flatVals]

theorem flatVals_get {n sz : Nat} {us : Nat → Nat → Value} {k : Nat} (h : k < n * sz) : (flatVals n sz us)[k]? = some (us (k / sz) (k % sz)) := by
  simp [flatVals, h]

theorem flatVals_at {n sz : Nat} {us : Nat → Nat → Value} {i j : Nat} (hi : i < n) (hj : j < sz) : (flatVals n sz us)[i * sz + j]? = some (us i j) := by
  have h1 : i * sz + j < n * sz := by
    have : (i + 1) * sz ≤ n * sz := Nat.mul_le_mul_right _ hi
    rw [Nat.add_mul] at this
    omega
  rw [flatVals_get h1]
  have h2 : (i * sz + j) / sz = i := by rw [Nat.mul_comm, Nat.mul_add_div (by omega), Nat.div_eq_of_lt hj]; rfl
  have h3 : (i * sz + j) % sz = j := by rw [Nat.mul_comm, Nat.mul_add_mod, Nat.mod_eq_of_lt hj]
  rw [h2, h3]

theorem cellAt_of_lt {sz : Nat} {xs : List (List AV)} (hrow : ∀ row ∈ xs, row.length = sz) {i j : Nat} (hi : i < xs.length) (hj : j < sz) : ∃ c, cellAt xs i j = some c := by
  have h1 : xs[i]? = some xs[i] := List.getElem?_eq_getElem hi
  have h2 := hrow xs[i] (List.getElem_mem hi)
  exact ⟨xs[i][j], cellAt_some.2 ⟨xs[i], h1, List.getElem?_eq_getElem (by omega)⟩⟩

theorem cellAt_col {sz : Nat} {xs : List (List AV)} (hrow : ∀ row ∈ xs, row.length = sz) {i j : Nat} {c : AV} (h : cellAt xs i j = some c) : j < sz := by
  obtain ⟨row, h1, h2⟩ := cellAt_some.1 h
  have := rows_len hrow h1
  have := (List.getElem?_eq_some_iff.1 h2).1
  omega

/-- A value that is known by its abstract one. -/
def plainVal : AV → Value
  | .bool b => .bool b
  | .int k n => .int k n
  | .str s => .string s
  | _ => undef

theorem rowsPlain_cell {xs : List (List AV)} (h : rowsPlain xs = true) {i j : Nat} {c : AV} (hc : cellAt xs i j = some c) : c.plain = true := by
  obtain ⟨row, h1, h2⟩ := cellAt_some.1 hc
  unfold rowsPlain at h
  rw [List.all_eq_true] at h
  have := h row (List.mem_of_getElem? h1)
  rw [List.all_eq_true] at this
  exact this c (List.mem_of_getElem? h2)

theorem Bor.plain {w : World} {R : Nat → Prop} {v : Value} {c : AV} (h : Bor w R v c) (hp : c.plain = true) : v = plainVal c := by
  cases h <;> first | rfl | simp [AV.plain] at hp

theorem Rows.plain {w : World} {I : Nat → Prop} {sz : Nat} {xs : List (List AV)} (hrow : ∀ row ∈ xs, row.length = sz) (h : rowsPlain xs = true) : Rows w I sz xs (fun i j => ((cellAt xs i j).map plainVal).getD undef) (fun _ _ _ => False) := by
  refine ⟨hrow, fun i j c hc => ?_, fun _ _ _ _ _ _ _ _ _ hf => hf.elim⟩
  have hp := rowsPlain_cell h hc
  rw [hc]
  cases c <;> simp only [AV.plain, Bool.false_eq_true] at hp
  · exact .bool _ _ (fun _ h => h)
  · exact .int _ _ _ (fun _ h => h)
  · exact .str _ _ (fun _ h => h)
end
end Go.Proofs.Ytfebkfeobdffjaa
