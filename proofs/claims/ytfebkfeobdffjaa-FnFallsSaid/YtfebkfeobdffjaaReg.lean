/- Regions: one operation behind the other, or in any order that they leave open. -/
import Derived.Test.YtfebkfeobdffjaaChk
import Derived.Orders
namespace Go.Proofs.Ytfebkfeobdffjaa
open Go Go.RowKit
set_option linter.unusedSimpArgs false

/-! ### The check -/
def dstB (nt : Nat) : Option Nat → Option Nat → Bool
  | none, none => true
  | some d, some d' => d == d' && decide (d < nt)
  | _, _ => false

def guardB (ops : Array Oper) (nt : Nat) : Option (Nat × Bool) → Option (Nat × Bool) → Bool
  | none, none => true
  | some (j, b), some (t, b') => b == b' && ((ops[j]?).bind (·.dst) == some t && decide (t < nt))
  | _, _ => false

def chkIns (P : Program) (num : Nat → Option FuncId) (nt : Nat) (ops : Array Oper) (o : Oper) (i : CIns) : Bool :=
  dstB nt o.dst i.dst && (guardB ops nt o.guard i.guard && chkOp P num o i.op)

def chkOps (P : Program) (num : Nat → Option FuncId) (nt : Nat) (ops : Array Oper) : List Oper → List CIns → Bool
  | [], [] => true
  | o :: os, i :: is => chkIns P num nt ops o i && chkOps P num nt ops os is
  | _, _ => false

/-- The operations that must come before: bit by bit. -/
def bitsOf (deps : List Nat) : List Edge → Nat
  | [] => 0
  | e :: es => if Region.binds .any e then (2 ^ e.on ||| deps.getD e.on 0) ||| bitsOf deps es else bitsOf deps es

def edgesB (n : Nat) : List Edge → Bool
  | [] => true
  | e :: es => (!Region.binds .any e || decide (e.on < n)) && edgesB n es

def chkDeps (deps : List Nat) : Nat → List Oper → List Nat → Bool
  | _, [], [] => true
  | n, o :: os, d :: ds => edgesB n o.after.toList && (d == bitsOf deps o.after.toList && chkDeps deps (n + 1) os ds)
  | _, _, _ => false

def depsFrom (acc : List Nat) : List Oper → List Nat
  | [] => acc
  | o :: os => depsFrom (acc ++ [bitsOf acc o.after.toList]) os

section
variable {cx : Cx} {nt : Nat} {cl : Callee}

theorem chkOps_get {P : Program} {num : Nat → Option FuncId} {ops : Array Oper} : ∀ {os : List Oper} {is : List CIns}, chkOps P num nt ops os is = true → os.length = is.length ∧ ∀ (n : Nat) (i : CIns), is[n]? = some i → ∃ o, os[n]? = some o ∧ chkIns P num nt ops o i = true
  | [], [], _ => ⟨rfl, fun n i h => by simp at h⟩
  | o :: os, i :: is, h => by
    simp only [chkOps, Bool.and_eq_true] at h
    obtain ⟨h1, h2⟩ := chkOps_get h.2
    refine ⟨by simp [h1], fun n j hj => ?_⟩
    cases n with
    | zero => simp only [List.getElem?_cons_zero, Option.some.injEq] at hj; subst hj; exact ⟨o, rfl, h.1⟩
    | succ n => obtain ⟨o', h3, h4⟩ := h2 n j (by simpa using hj); exact ⟨o', by simpa using h3, h4⟩
  | [], _ :: _, h => by cases h
  | _ :: _, [], h => by cases h

theorem bitsOf_get {deps : List Nat} {k : Nat} : ∀ {es : List Edge}, (bitsOf deps es).testBit k = true → ∃ e ∈ es, Region.binds .any e = true ∧ (e.on = k ∨ (deps.getD e.on 0).testBit k = true)
  | [], h => by simp [bitsOf] at h
  | e :: es, h => by
    simp only [bitsOf] at h
    split at h
    · rename_i hb
      simp only [Nat.testBit_or, Bool.or_eq_true] at h
      rcases h with (h | h) | h
      · refine ⟨e, List.mem_cons_self, hb, .inl ?_⟩
        rw [Nat.testBit_two_pow] at h
        simpa using h
      · exact ⟨e, List.mem_cons_self, hb, .inr h⟩
      · obtain ⟨e', h1, h2⟩ := bitsOf_get h
        exact ⟨e', List.mem_cons_of_mem _ h1, h2⟩
    · obtain ⟨e', h1, h2⟩ := bitsOf_get h
      exact ⟨e', List.mem_cons_of_mem _ h1, h2⟩

theorem edgesB_get {n : Nat} : ∀ {es : List Edge}, edgesB n es = true → ∀ e ∈ es, Region.binds .any e = true → e.on < n
  | [], _, e, he, _ => by simp at he
  | e0 :: es, h, e, he, hb => by
    simp only [edgesB, Bool.and_eq_true, Bool.or_eq_true, Bool.not_eq_true', decide_eq_true_eq] at h
    rcases List.mem_cons.1 he with rfl | he
    · exact h.1.resolve_left (by simp [hb])
    · exact edgesB_get h.2 e he hb

theorem chkDeps_get {deps : List Nat} : ∀ {n : Nat} {os : List Oper} {ds : List Nat}, chkDeps deps n os ds = true → ∀ (j : Nat) (o : Oper) (d : Nat), os[j]? = some o → ds[j]? = some d → edgesB (n + j) o.after.toList = true ∧ d = bitsOf deps o.after.toList
  | n, [], [], _, j, o, d, h, _ => by simp at h
  | n, o0 :: os, d0 :: ds, h, j, o, d, ho, hd => by
    simp only [chkDeps, Bool.and_eq_true, beq_iff_eq] at h
    cases j with
    | zero =>
      simp only [List.getElem?_cons_zero, Option.some.injEq] at ho hd
      subst ho; subst hd
      exact ⟨h.1, h.2.1⟩
    | succ j =>
      have := chkDeps_get h.2.2 j o d (by simpa using ho) (by simpa using hd)
      rw [show n + (j + 1) = n + 1 + j by omega]
      exact this
  | _, [], _ :: _, h, _, _, _, _, _ => by cases h
  | _, _ :: _, [], h, _, _, _, _, _ => by cases h

/-! ### One step -/
theorem dstB_spec {x y : Option Nat} (h : dstB nt x y = true) : x = y ∧ ∀ d, y = some d → d < nt := by
  unfold dstB at h
  split at h
  · exact ⟨rfl, fun d hd => by cases hd⟩
  · simp only [Bool.and_eq_true, beq_iff_eq, decide_eq_true_eq] at h
    obtain ⟨rfl, h2⟩ := h
    exact ⟨rfl, fun d hd => by obtain rfl := Option.some.inj hd; exact h2⟩
  · cases h

theorem wanted_of {ops : Array Oper} {s : St} {g : Gh} {a : Act} {w : World} (c : Corr cx nt s g a w) {o : Oper} {gd : Option (Nat × Bool)} (h : guardB ops nt o.guard gd = true) {b : Bool} (hg : guardA s.slots gd = some b) :
    Region.wanted o (yielded ops a.tmps) = b := by
  generalize h0 : o.guard = og at h
  unfold guardB at h
  split at h
  · simp only [guardA, Option.some.injEq] at hg
    simp only [Region.wanted, h0]
    exact hg
  · rename_i j b1 t b2
    simp only [Bool.and_eq_true, beq_iff_eq, decide_eq_true_eq] at h
    obtain ⟨rfl, h1, h2⟩ := h
    have hr := c.slots t
    have hsz : t < a.tmps.size := by rw [c.size]; exact h2
    have hget : a.tmps[t]? = some (a.tmps.getD t undef) := by
      rw [Array.getD_eq_getD_getElem?, Array.getElem?_eq_getElem hsz]; rfl
    simp only [Region.wanted, h0, yielded, h1, Option.bind_some, hget]
    simp only [guardA] at hg
    generalize s.slots t = c1 at hg hr
    generalize a.tmps.getD t undef = v1 at hr
    cases c1 <;> try (cases hg; done)
    · rename_i x
      simp only [Option.some.injEq] at hg
      cases hr
      rw [← hg]
      cases x <;> cases b1 <;> rfl
    · rename_i vs
      cases vs with
      | cons _ _ => cases hg
      | nil =>
        simp only [Option.some.injEq] at hg
        cases hr
        rw [← hg]
        cases b1 <;> rfl
  · cases h

theorem corr_skip {s : St} {g : Gh} {a : Act} {w : World} (c : Corr cx nt s g a w) {dst : Option Nat} (hd : ∀ d, dst = some d → d < nt) : Corr cx nt (s.after dst (.tup []) [] false) g (a.put dst undef) w := by
  have := c.put (nx := s.next) (bs := s.base) (Keeps.refl _ _ _ _ _) c.mem dst hd undef (.tup []) (.tup #[] [] rfl (fun i v c hv => by simp at hv))
  exact this

/-- One operation, wherever its turn comes. -/
theorem step_goes {ops : Array Oper} {Q : Exit → Act → World → Prop} {K : Act → World → Prop} {s s1 : St} {g : Gh} {a : Act} {w : World} (c : Corr cx nt s g a w) (hK : Known cx cl) {n key : Nat} {o : Oper} {i : CIns} {t : Tr} (ho : ops[n]? = some o)
    (hi : chkIns cx.P cx.num nt ops o i = true) (hkey : ∀ id, g.used id → ¬ (key ≤ id ∧ id < key + 64)) (h : stepLoud cl i key s = some (s1, t))
    (hn : ∀ g' a' w', Corr cx nt s1 g' a' w' → (∀ id, g'.used id → g.used id ∨ (key ≤ id ∧ id < key + 64)) → K a' w') : wpOp cx.P ops Q n K a w := by
  simp only [chkIns, Bool.and_eq_true] at hi
  obtain ⟨hdst, hgd, hop⟩ := hi
  obtain ⟨hde, hdl⟩ := dstB_spec hdst
  unfold wpOp
  simp only [ho]
  unfold stepLoud at h
  cases hg : guardA s.slots i.guard with
  | none => rw [hg] at h; cases h
  | some b =>
    rw [hg] at h
    have hw := wanted_of c hgd hg
    cases b with
    | false =>
      simp only [Option.some.injEq, Prod.mk.injEq] at h
      obtain ⟨rfl, _⟩ := h
      rw [hw]
      simp only [Bool.false_eq_true, if_false]
      rw [hde]
      exact hn g _ w (corr_skip c hdl) (fun id hid => .inl hid)
    | true =>
      simp only at h
      rw [hw]
      simp only [if_true]
      cases hs : sem cl i.op key s.slots s.heap s.ep with
      | none => rw [hs] at h; cases h
      | some out =>
        rw [hs] at h
        simp only [Option.some.injEq, Prod.mk.injEq] at h
        obtain ⟨rfl, _⟩ := h
        refine .inl (op_goes c hkey hK hop hs K Q (fun v w' g' h1 h2 h3 h4 => ?_))
        rw [hde]
        exact hn g' _ w' (c.put h1 h2 i.dst hdl v out.v h3) h4

/-! ### One behind the other -/
theorem stepIns_loud {i : CIns} {key : Nat} {s s1 : St} (h : stepIns cl i key s = some s1) : ∃ t, stepLoud cl i key s = some (s1, t) := by
  unfold stepIns at h
  unfold stepLoud
  cases hg : guardA s.slots i.guard with
  | none => rw [hg] at h; cases h
  | some b =>
    rw [hg] at h
    cases b with
    | false => simp only [Option.some.injEq] at h; subst h; exact ⟨_, rfl⟩
    | true =>
      simp only at h ⊢
      cases hs : sem cl i.op key s.slots s.heap s.ep with
      | none => rw [hs] at h; cases h
      | some out =>
        rw [hs] at h
        simp only [Option.some.injEq] at h
        subst h
        exact ⟨_, rfl⟩

theorem seq_goes (hK : Known cx cl) {ops : Array Oper} {Q : Exit → Act → World → Prop} {s' : St} {kN : Nat} : ∀ {is : List CIns} {n key : Nat} {s : St} {g : Gh} {a : Act} {w : World}, runIns cl is key s = some s' → key + 64 * is.length = kN →
    (∀ (j : Nat) (i : CIns), is[j]? = some i → ∃ o, ops[n + j]? = some o ∧ chkIns cx.P cx.num nt ops o i = true) → Corr cx nt s g a w → (∀ id, g.used id → id < key) →
    (∀ g' a' w', Corr cx nt s' g' a' w' → (∀ id, g'.used id → id < kN) → Q .normal a' w') → wpOps cx.P ops Q (List.range' n is.length) a w
  | [], n, key, s, g, a, w, h, hN, _, c, hu, hq => by
    simp only [runIns, Option.some.injEq] at h
    subst h
    simp only [List.length_nil, List.range'_zero, wpOps]
    exact hq g a w c (fun id hid => by have := hu id hid; simp at hN; omega)
  | i :: is, n, key, s, g, a, w, h, hN, hc, c, hu, hq => by
    simp only [runIns] at h
    cases h1 : stepIns cl i key s with
    | none => rw [h1] at h; cases h
    | some s1 =>
      rw [h1] at h
      simp only at h
      obtain ⟨t, ht⟩ := stepIns_loud h1
      obtain ⟨o, ho, hi⟩ := hc 0 i rfl
      rw [Nat.add_zero] at ho
      rw [List.length_cons, List.range'_succ, wpOps_cons]
      refine step_goes c hK ho hi (fun id hid hr => by have := hu id hid; omega) ht (fun g' a' w' c' hu' => ?_)
      exact seq_goes hK h (by simp at hN; omega) (fun j i' hj => by
        obtain ⟨o', ho', hi'⟩ := hc (j + 1) i' (by simpa using hj)
        exact ⟨o', by rw [show n + 1 + j = n + (j + 1) by omega]; exact ho', hi'⟩) c' (fun id hid => by
        rcases hu' id hid with h2 | h2
        · have := hu id h2; omega
        · omega) hq

/-! ### In any order -/
theorem items_sorted : ∀ {ops : List CIns} {ts : List Tr} {n : Nat}, (items n ops ts).Pairwise (fun x p => x.1 < p.1)
  | [], _, n => by simp [items]
  | _ :: _, [], n => by simp [items]
  | i :: is, t :: ts, n => by
    simp only [items, List.pairwise_cons]
    refine ⟨fun p hp => ?_, items_sorted⟩
    obtain ⟨j, h1, _⟩ := items_get hp
    show n < p.1
    omega

theorem any_goes (hK : Known cx cl) {ops : Array Oper} {Q : Exit → Act → World → Prop} {deps : List Nat} {cops : List CIns} {k0 : Nat} {sF : St} (hdl : deps.length = ops.size)
    (hops : ∀ (n : Nat) (i : CIns), cops[n]? = some i → ∃ o, ops[n]? = some o ∧ chkIns cx.P cx.num nt ops o i = true) (hcl : cops.length = ops.size)
    (hdep : ∀ (j : Nat) (o : Oper) (d : Nat), ops[j]? = some o → deps[j]? = some d → edgesB j o.after.toList = true ∧ d = bitsOf deps o.after.toList)
    (hq : ∀ g' a' w', Corr cx nt sF g' a' w' → (∀ id, g'.used id → id < k0 + 64 * ops.size) → Q .normal a' w') :
    ∀ (fuel : Nat) (rem : List (Nat × CIns × Tr)) (listed : Array Bool) (s : St) (g : Gh) (a : Act) (w : World), rem.length ≤ fuel → rem.Pairwise (fun x p => x.1 < p.1) → Free deps rem → (∀ p ∈ rem, cops[p.1]? = some p.2.1) → RunR cl k0 rem s sF →
      Corr cx nt s g a w → listed.size = ops.size → (∀ n, n < ops.size → (listed.getD n true = false ↔ ∃ p ∈ rem, p.1 = n)) →
      (∀ j d k, listed.getD j false = true → deps[j]? = some d → d.testBit k = true → listed.getD k false = true) → (∀ id, g.used id → id < k0 ∨ ∃ n, n < ops.size ∧ listed.getD n false = true ∧ k0 + 64 * n ≤ id ∧ id < k0 + 64 * n + 64) →
      wpAny cx.P .any ops Q fuel listed a w := by
  intro fuel
  induction fuel with
  | zero =>
    intro rem listed s g a w hlen _ _ _ hrun c hsz hl _ hu
    have hrem : rem = [] := List.length_eq_zero_iff.1 (by omega)
    subst hrem
    obtain rfl := hrun
    refine ⟨?_, hq g a w c ?_⟩
    · cases hr : Region.ready .any ops listed with
      | nil => rfl
      | cons x xs =>
        have hx : x ∈ Region.ready .any ops listed := by rw [hr]; exact List.mem_cons_self
        obtain ⟨h1, o, h2, _⟩ := mem_ready.1 hx
        have hlt := (Array.getElem?_eq_some_iff.1 h2).1
        obtain ⟨p, hp, _⟩ := (hl x hlt).1 h1
        simp at hp
    · intro id hid
      rcases hu id hid with h1 | ⟨n, h1, _, _, h2⟩
      · omega
      · have : (n + 1) ≤ ops.size := h1
        have := Nat.mul_le_mul_left 64 this
        omega
  | succ fuel ih =>
    intro rem listed s g a w hlen hsort hfree hmem hrun c hsz hl hclosed hu
    have hlistN : ∀ n, n < ops.size → (∀ p ∈ rem, p.1 ≠ n) → listed.getD n false = true := fun n hn hp => by
      have h1 : ¬ (listed.getD n true = false) := fun h => by
        obtain ⟨p, hp1, hp2⟩ := (hl n hn).1 h
        exact hp p hp1 hp2
      have h2 : listed[n]? = some (listed[n]'(by omega)) := Array.getElem?_eq_getElem (by omega)
      simp only [Array.getD_eq_getD_getElem?, h2, Option.getD_some] at h1 ⊢
      simpa using h1
    refine ⟨fun hready => ?_, fun i hi => ?_⟩
    · -- nothing is ready: nothing is left
      have hrem : rem = [] := by
        cases hrem : rem with
        | nil => rfl
        | cons p rest =>
          exfalso
          have hp : p ∈ rem := by rw [hrem]; exact List.mem_cons_self
          obtain ⟨o, ho, _⟩ := hops p.1 p.2.1 (hmem p hp)
          have hlt := (Array.getElem?_eq_some_iff.1 ho).1
          have hd : deps[p.1]? = some (deps[p.1]'(by omega)) := List.getElem?_eq_getElem (by omega)
          obtain ⟨h1, _⟩ := hdep p.1 o _ ho hd
          have : p.1 ∈ Region.ready .any ops listed := by
            refine mem_ready.2 ⟨(hl p.1 hlt).2 ⟨p, hp, rfl⟩, o, ho, fun e he hb => ?_⟩
            have hlt2 := edgesB_get h1 e (Array.mem_toList_iff.2 he) hb
            refine hlistN e.on (by omega) (fun q hq e' => ?_)
            rw [hrem] at hq hsort
            rw [List.pairwise_cons] at hsort
            rcases List.mem_cons.1 hq with rfl | hq
            · omega
            · have := hsort.1 q hq; omega
          rw [hready] at this
          simp at this
      subst hrem
      obtain rfl := hrun
      refine hq g a w c (fun id hid => ?_)
      rcases hu id hid with h1 | ⟨n, h1, _, _, h2⟩
      · omega
      · have : (n + 1) ≤ ops.size := h1
        have := Nat.mul_le_mul_left 64 this
        omega
    · obtain ⟨h1, o, ho, hafter⟩ := mem_ready.1 hi
      have hlt := (Array.getElem?_eq_some_iff.1 ho).1
      obtain ⟨p, hp, hpi⟩ := (hl i hlt).1 h1
      subst hpi
      obtain ⟨X, Y, hXY⟩ := List.append_of_mem hp
      subst hXY
      have hd : deps[p.1]? = some (deps[p.1]'(by omega)) := List.getElem?_eq_getElem (by omega)
      obtain ⟨_, hdb⟩ := hdep p.1 o _ ho hd
      -- the bits of p are listed
      have hbits : ∀ k, (deps[p.1]'(by omega)).testBit k = true → listed.getD k false = true := by
        intro k hk
        rw [hdb] at hk
        obtain ⟨e, he, hb, h2⟩ := bitsOf_get hk
        have hel := hafter e (Array.mem_toList_iff.1 he) hb
        rcases h2 with rfl | h2
        · exact hel
        · cases hde : deps[e.on]? with
          | none => simp [List.getD, hde] at h2
          | some d' => exact hclosed e.on d' k hel hde (by simpa [List.getD, hde] using h2)
      have hpw := List.pairwise_append.1 hsort
      have hxl : ∀ x ∈ X, x.1 < p.1 := fun x hx => hpw.2.2 x hx p List.mem_cons_self
      have hyl : ∀ y ∈ Y, p.1 < y.1 := fun y hy => (List.pairwise_cons.1 hpw.2.1).1 y hy
      have hbub := RunR.bubble hrun (fun x hx => by
        obtain ⟨d, h2, h3⟩ := hfree x (List.mem_append.2 (.inl hx)) p (List.mem_append.2 (.inr List.mem_cons_self)) (hxl x hx)
        rw [hd] at h2
        obtain rfl := Option.some.inj h2
        refine h3.resolve_left (fun hb => ?_)
        have hlx := hbits x.1 hb
        have hxs : x.1 < ops.size := by have := hxl x hx; omega
        have hun := (hl x.1 hxs).2 ⟨x, List.mem_append.2 (.inl hx), rfl⟩
        have h2 : listed[x.1]? = some (listed[x.1]'(by omega)) := Array.getElem?_eq_getElem (by omega)
        simp only [Array.getD_eq_getD_getElem?, h2, Option.getD_some] at hlx hun
        rw [hlx] at hun
        cases hun)
      obtain ⟨s1, hstep, hrest⟩ := hbub
      obtain ⟨o', ho', hins⟩ := hops p.1 p.2.1 (hmem p hp)
      have hunl : listed.getD p.1 false = false := by
        have h2 : listed[p.1]? = some (listed[p.1]'(by omega)) := Array.getElem?_eq_getElem (by omega)
        simp only [Array.getD_eq_getD_getElem?, h2, Option.getD_some] at h1 ⊢
        exact h1
      refine step_goes c hK ho' hins (key := k0 + 64 * p.1) ?_ hstep (fun g' a' w' c' hu' => ?_)
      · intro id hid hr
        rcases hu id hid with h2 | ⟨n, h2, h3, h4, h5⟩
        · omega
        · have : n ≠ p.1 := fun e => by rw [e, hunl] at h3; cases h3
          rcases Nat.lt_or_ge n p.1 with h6 | h6
          · have := Nat.mul_le_mul_left 64 (show n + 1 ≤ p.1 from h6); omega
          · have := Nat.mul_le_mul_left 64 (show p.1 + 1 ≤ n by omega); omega
      · have hgs : ∀ j d, (listed.setIfInBounds p.1 true).getD j d = if j = p.1 then true else listed.getD j d := fun j d => by
          simp only [Array.getD_eq_getD_getElem?, Array.getElem?_setIfInBounds]
          by_cases hj : p.1 = j
          · subst hj; simp [show p.1 < listed.size by omega]
          · simp [hj, Ne.symm hj]
        refine ih (X ++ Y) (listed.setIfInBounds p.1 true) s1 g' a' w' (by simp at hlen ⊢; omega) ?_ ?_ ?_ hrest c' (by simpa using hsz) ?_ ?_ ?_
        · exact List.pairwise_append.2 ⟨hpw.1, (List.pairwise_cons.1 hpw.2.1).2, fun x hx y hy => hpw.2.2 x hx y (List.mem_cons_of_mem _ hy)⟩
        · intro x hx q hq hlt2
          have up : ∀ z, z ∈ X ++ Y → z ∈ X ++ p :: Y := fun z hz => by
            rcases List.mem_append.1 hz with hz | hz
            · exact List.mem_append.2 (.inl hz)
            · exact List.mem_append.2 (.inr (List.mem_cons_of_mem _ hz))
          exact hfree x (up x hx) q (up q hq) hlt2
        · intro q hq
          refine hmem q ?_
          rcases List.mem_append.1 hq with hz | hz
          · exact List.mem_append.2 (.inl hz)
          · exact List.mem_append.2 (.inr (List.mem_cons_of_mem _ hz))
        · intro n hn
          rw [hgs]
          by_cases hnp : n = p.1
          · rw [if_pos hnp]
            constructor
            · intro h; cases h
            · rintro ⟨q, hq, hqn⟩
              rcases List.mem_append.1 hq with hz | hz
              · have := hxl q hz; omega
              · have := hyl q hz; omega
          · rw [if_neg hnp, hl n hn]
            constructor
            · rintro ⟨q, hq, hqn⟩
              refine ⟨q, ?_, hqn⟩
              rcases List.mem_append.1 hq with hz | hz
              · exact List.mem_append.2 (.inl hz)
              · rcases List.mem_cons.1 hz with rfl | hz
                · exact absurd hqn.symm hnp
                · exact List.mem_append.2 (.inr hz)
            · rintro ⟨q, hq, hqn⟩
              refine ⟨q, ?_, hqn⟩
              rcases List.mem_append.1 hq with hz | hz
              · exact List.mem_append.2 (.inl hz)
              · exact List.mem_append.2 (.inr (List.mem_cons_of_mem _ hz))
        · intro j d k hj hdj hk
          rw [hgs] at hj ⊢
          by_cases hkp : k = p.1
          · rw [if_pos hkp]
          · rw [if_neg hkp]
            by_cases hjp : j = p.1
            · subst hjp
              rw [hd] at hdj
              obtain rfl := Option.some.inj hdj
              exact hbits k hk
            · rw [if_neg hjp] at hj
              exact hclosed j d k hj hdj hk
        · intro id hid
          rcases hu' id hid with h2 | h2
          · rcases hu id h2 with h3 | ⟨n, h3, h4, h5⟩
            · exact .inl h3
            · refine .inr ⟨n, h3, ?_, h5⟩
              rw [hgs]; split <;> first | rfl | exact h4
          · exact .inr ⟨p.1, hlt, by rw [hgs, if_pos rfl], h2.1, h2.2⟩
end
end Go.Proofs.Ytfebkfeobdffjaa
