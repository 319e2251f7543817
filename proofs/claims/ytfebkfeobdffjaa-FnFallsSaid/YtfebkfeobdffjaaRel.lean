/- How the model's memory reads as the abstract machine's values: what is on loan, what is owned, what the slots hold. -/
import Derived.Test.YtfebkfeobdffjaaAv
import Derived.Below
import Derived.Laws.AppendOwn
namespace Go.Proofs.Ytfebkfeobdffjaa
open Go Go.RowKit

def cellAt (xs : List (List AV)) (i j : Nat) : Option AV := (xs[i]?).bind (·[j]?)

theorem cellAt_some {xs : List (List AV)} {i j : Nat} {c : AV} : cellAt xs i j = some c ↔ ∃ row, xs[i]? = some row ∧ row[j]? = some c := by
  unfold cellAt
  cases h : xs[i]? <;> simp

/-- The worlds agree on these blocks. -/
def Same (w w' : World) (S : Nat → Prop) : Prop := ∀ b, S b → w'.heap[b]? = w.heap[b]?

theorem Same.refl (w : World) (S : Nat → Prop) : Same w w S := fun _ _ => rfl
theorem Same.mono {w w' : World} {S T : Nat → Prop} (h : Same w w' S) (hs : ∀ b, T b → S b) : Same w w' T := fun b hb => h b (hs b hb)
theorem Same.trans {a b c : World} {S : Nat → Prop} (h : Same a b S) (k : Same b c S) : Same a c S := fun x hx => (k x hx).trans (h x hx)
theorem Same.cell {w w' : World} {S : Nat → Prop} (h : Same w w' S) {a : Addr} (ha : S a.block) : w'.cell? a = w.cell? a := World.cell?_of_block (h _ ha)

/-! ### What is on loan -/
inductive Bor (w : World) (R : Nat → Prop) : Value → AV → Prop
  | any (v : Value) (h : v.oneCell' = true) : Bor w R v .any
  | bool (b : Bool) : Bor w R (.bool b) (.bool b)
  | int (k : IntKind) (n : Int) : Bor w R (.int k n) (.int k n)
  | str (s : ByteArray) : Bor w R (.string s) (.str s)
  | nil (m : Md) (sz : Nat) (a : Option Addr) (cap : Nat) : Bor w R (.slice a 0 cap) (.sl m sz [])
  | sl (m : Md) (sz : Nat) (xs : List (List AV)) (b o cap : Nat) (us : Nat → Nat → Value) (hcap : xs.length ≤ cap) (hb : R b) (hrow : ∀ row ∈ xs, row.length = sz)
      (hcell : ∀ i j c, cellAt xs i j = some c → w.cell? ⟨b, o + i * sz + j, none⟩ = some (us i j)) (hin : ∀ i j c, cellAt xs i j = some c → Bor w R (us i j) c) :
      Bor w R (.slice (some ⟨b, o, none⟩) xs.length cap) (.sl m sz xs)

theorem Bor.mono {w w' : World} {R R' : Nat → Prop} {v : Value} {c : AV} (h : Bor w R v c) (hs : Same w w' R) (hr : ∀ b, R b → R' b) : Bor w' R' v c := by
  induction h with
  | any v h => exact .any v h
  | bool b => exact .bool b
  | int k n => exact .int k n
  | str s => exact .str s
  | nil m sz a cap => exact .nil m sz a cap
  | sl m sz xs b o cap us hcap hb hrow hcell _ ih => exact .sl m sz xs b o cap us hcap (hr b hb) hrow (fun i j c hc => by rw [hs.cell (by exact hb)]; exact hcell i j c hc) ih

theorem Bor.one {w : World} {R : Nat → Prop} {v : Value} {c : AV} (h : Bor w R v c) : v.oneCell' = true := by
  cases h <;> first | rfl | assumption

/-- How the content is held is nothing to the reading. -/
theorem Bor.md {w : World} {R : Nat → Prop} {v : Value} {m m' : Md} {sz : Nat} {xs : List (List AV)} (h : Bor w R v (.sl m sz xs)) : Bor w R v (.sl m' sz xs) := by
  cases h with
  | nil m sz a cap => exact .nil _ _ _ _
  | sl m sz xs b o cap us hcap hb hrow hcell hin => exact .sl _ _ _ b o cap us hcap hb hrow hcell hin

theorem Bor.lend {w : World} {R : Nat → Prop} {v : Value} {c : AV} (m : Md) (h : Bor w R v c) : Bor w R v (c.lend m) := by
  cases c <;> first | exact h | exact h.md

/-! ### What is owned, with its blocks -/
inductive Cl (w : World) (I : Nat → Prop) : Value → AV → (Nat → Prop) → Prop
  | any (v : Value) (S : Nat → Prop) (h : v.oneCell' = true) (hS : ∀ b, ¬ S b) : Cl w I v .any S
  | bool (b : Bool) (S : Nat → Prop) (hS : ∀ b, ¬ S b) : Cl w I (.bool b) (.bool b) S
  | int (k : IntKind) (n : Int) (S : Nat → Prop) (hS : ∀ b, ¬ S b) : Cl w I (.int k n) (.int k n) S
  | str (s : ByteArray) (S : Nat → Prop) (hS : ∀ b, ¬ S b) : Cl w I (.string s) (.str s) S
  | imm (v : Value) (sz : Nat) (xs : List (List AV)) (S : Nat → Prop) (h : Bor w I v (.sl .imm sz xs)) (hS : ∀ b, ¬ S b) : Cl w I v (.sl .imm sz xs) S
  | nil (sz : Nat) (S : Nat → Prop) (hS : ∀ b, ¬ S b) : Cl w I (.slice none 0 0) (.sl .own sz []) S
  | own (sz : Nat) (xs : List (List AV)) (b cap : Nat) (cur : Array Value) (e : TypeId) (us : Nat → Nat → Value) (fs : Nat → Nat → Nat → Prop) (S : Nat → Prop)
      (hheap : w.heap[b]? = some (.cells cur e (0, 0))) (hcap : xs.length ≤ cap) (hmax : cap ≤ maxLen) (hcur : cap * sz ≤ cur.size) (hrow : ∀ row ∈ xs, row.length = sz)
      (hcell : ∀ i j c, cellAt xs i j = some c → cur[i * sz + j]? = some (us i j)) (hin : ∀ i j c, cellAt xs i j = some c → Cl w I (us i j) c (fs i j))
      (hdis : ∀ i j c i' j' c' x, cellAt xs i j = some c → cellAt xs i' j' = some c' → fs i j x → fs i' j' x → i = i' ∧ j = j')
      (hnot : ∀ i j c, cellAt xs i j = some c → ¬ fs i j b) (hS : ∀ x, S x ↔ x = b ∨ ∃ i j c, cellAt xs i j = some c ∧ fs i j x) :
      Cl w I (.slice (some ⟨b, 0, none⟩) xs.length cap) (.sl .own sz xs) S

theorem Cl.one {w : World} {I : Nat → Prop} {v : Value} {c : AV} {S : Nat → Prop} (h : Cl w I v c S) : v.oneCell' = true := by
  cases h with
  | imm _ _ _ _ h => exact h.one
  | _ => first | rfl | assumption

theorem Cl.mono {w w' : World} {I I' : Nat → Prop} {v : Value} {c : AV} {S : Nat → Prop} (h : Cl w I v c S) (hs : Same w w' S) (hi : Same w w' I) (hI : ∀ b, I b → I' b) : Cl w' I' v c S := by
  induction h with
  | any v S h hS => exact .any v S h hS
  | bool b S hS => exact .bool b S hS
  | int k n S hS => exact .int k n S hS
  | str s S hS => exact .str s S hS
  | imm v sz xs S h hS => exact .imm v sz xs S (h.mono hi hI) hS
  | nil sz S hS => exact .nil sz S hS
  | own sz xs b cap cur e us fs S hheap hcap hmax hcur hrow hcell _ hdis hnot hS ih =>
    refine .own sz xs b cap cur e us fs S ?_ hcap hmax hcur hrow hcell ?_ hdis hnot hS
    · rw [hs b ((hS b).2 (.inl rfl))]; exact hheap
    · exact fun i j c hc => ih i j c hc (hs.mono fun x hx => (hS x).2 (.inr ⟨i, j, c, hc, hx⟩))

/-- The same reading, its blocks named otherwise. -/
theorem Cl.blocks {w : World} {I : Nat → Prop} {v : Value} {c : AV} {S S' : Nat → Prop} (h : Cl w I v c S) (hs : ∀ b, S' b ↔ S b) : Cl w I v c S' := by
  have he : S' = S := funext fun b => propext (hs b)
  rw [he]; exact h

/-- What is owned is on disk: its blocks are there. -/
theorem Cl.lt {w : World} {I : Nat → Prop} {v : Value} {c : AV} {S : Nat → Prop} (h : Cl w I v c S) : ∀ b, S b → b < w.heap.size := by
  induction h with
  | own sz xs b cap cur e us fs S hheap hcap hmax hcur hrow hcell _ hdis hnot hS ih =>
    intro x hx
    rcases (hS x).1 hx with rfl | ⟨i, j, c, hc, hf⟩
    · exact (Array.getElem?_eq_some_iff.1 hheap).1
    · exact ih i j c hc x hf
  | any _ S _ hS => exact fun b hb => absurd hb (hS b)
  | bool _ S hS => exact fun b hb => absurd hb (hS b)
  | int _ _ S hS => exact fun b hb => absurd hb (hS b)
  | str _ S hS => exact fun b hb => absurd hb (hS b)
  | imm _ _ _ S _ hS => exact fun b hb => absurd hb (hS b)
  | nil _ S hS => exact fun b hb => absurd hb (hS b)

theorem cell_of_heap {w : World} {b o : Nat} {cur : Array Value} {e : TypeId} {f : Nat × Nat} (h : w.heap[b]? = some (.cells cur e f)) : w.cell? ⟨b, o, none⟩ = cur[o]? := by
  simp [World.cell?, h]

/-- What is owned may be lent. -/
theorem Cl.bor {w : World} {I R : Nat → Prop} {v : Value} {c : AV} {S : Nat → Prop} (h : Cl w I v c S) (hs : ∀ b, S b → R b) (hi : ∀ b, I b → R b) : Bor w R v c := by
  induction h with
  | any v S h hS => exact .any v h
  | bool b S hS => exact .bool b
  | int k n S hS => exact .int k n
  | str s S hS => exact .str s
  | imm v sz xs S h hS => exact h.mono (Same.refl _ _) hi
  | nil sz S hS => exact .nil _ _ _ _
  | own sz xs b cap cur e us fs S hheap hcap hmax hcur hrow hcell _ hdis hnot hS ih =>
    refine .sl _ _ _ b 0 cap us hcap (hs b ((hS b).2 (.inl rfl))) hrow ?_ ?_
    · intro i j c hc
      rw [cell_of_heap hheap, Nat.zero_add]
      exact hcell i j c hc
    · exact fun i j c hc => ih i j c hc (fun x hx => hs x ((hS x).2 (.inr ⟨i, j, c, hc, hx⟩)))

/-! ### The ghost: which value each number stands for, and its blocks -/
structure Gh where
  v : Nat → Value
  fp : Nat → Nat → Prop
  I : Nat → Prop
  N : Nat → Prop
  used : Nat → Prop

/-- Where a loan of this kind looks. -/
def rdSet (R : Nat → Prop) (g : Gh) : Md → Nat → Prop
  | .own => fun _ => False
  | .imm => g.I
  | .bor => R
  | .snap _ => g.N

def SliceAt (gv : Value) (sz lo len : Nat) (v : Value) : Prop :=
  ∃ a cap, v = .slice a len cap ∧ len ≤ cap ∧ (len ≠ 0 → ∃ b n c, gv = .slice (some ⟨b, 0, none⟩) n c ∧ a = some ⟨b, lo * sz, none⟩)

def PtrAt (gv : Value) (i off : Nat) (v : Value) : AO → Prop
  | .box _ => ∃ b, gv = .pointer (some ⟨b, 0, none⟩) ∧ v = .pointer (some ⟨b, off, none⟩)
  | .arr sz _ => ∃ b n c, gv = .slice (some ⟨b, 0, none⟩) n c ∧ v = .pointer (some ⟨b, i * sz + off, none⟩)
  | .map _ _ => True

/-- A key as the model has it. -/
def keyV (kb : Bool) (k : ByteArray) : Value := if kb then .bool (sEq k (bkey true)) else .string k
def keyIs (kb : Bool) (k : ByteArray) : Prop := kb = true → k = bkey true ∨ k = bkey false

/-- Two objects of one kind (and, arrays, of one width). -/
def AO.alike : AO → AO → Prop
  | .box _, .box _ => True
  | .arr sz _, .arr sz' _ => sz = sz'
  | .map kb _, .map kb' _ => kb = kb'
  | _, _ => False

theorem AO.alike_refl (o : AO) : o.alike o := by cases o <;> simp [AO.alike]
theorem AO.alike.trans {o p q : AO} (h : o.alike p) (k : p.alike q) : o.alike q := by cases o <;> cases p <;> cases q <;> simp_all [AO.alike]

inductive SRel (num : Nat → Option FuncId) (w : World) (R : Nat → Prop) (g : Gh) (h : Nat → Option AO) (ep : Nat) : Value → AV → Prop
  | any (v : Value) : SRel num w R g h ep v .any
  | bool (b : Bool) : SRel num w R g h ep (.bool b) (.bool b)
  | int (k : IntKind) (n : Int) : SRel num w R g h ep (.int k n) (.int k n)
  | str (s : ByteArray) : SRel num w R g h ep (.string s) (.str s)
  | nil (sz : Nat) : SRel num w R g h ep (.slice none 0 0) (.sl .own sz [])
  | sl (v : Value) (m : Md) (sz : Nat) (xs : List (List AV)) (h1 : v.oneCell' = true) (hm : m.ok ep = true → Bor w (rdSet R g m) v (.sl m sz xs)) (hlim : ∀ e, m = .snap e → e ≤ ep) (hown : m ≠ .own) : SRel num w R g h ep v (.sl m sz xs)
  | ref (id : Nat) (v : Value) (h1 : v.oneCell' = true) (hu : g.used id) (hv : ∀ o, h id = some o → v = g.v id) : SRel num w R g h ep v (.ref id)
  | view (id lo len : Nat) (v : Value) (h1 : v.oneCell' = true) (hu : g.used id) (hv : ∀ sz xs, h id = some (.arr sz xs) → SliceAt (g.v id) sz lo len v) : SRel num w R g h ep v (.view id lo len)
  | ptr (id i off : Nat) (v : Value) (h1 : v.oneCell' = true) (hu : g.used id) (hv : ∀ o, h id = some o → PtrAt (g.v id) i off v o) : SRel num w R g h ep v (.ptr id i off)
  | bptr (m : Md) (row : List AV) (off : Nat) (v : Value) (h1 : v.oneCell' = true)
      (hlim : ∀ e, m = .snap e → e ≤ ep)
      (hm : m.ok ep = true → ∃ (b o : Nat) (us : Nat → Value), v = .pointer (some ⟨b, o, none⟩) ∧ rdSet R g m b ∧ ∀ (j : Nat) (c : AV), row[off + j]? = some c → w.cell? ⟨b, o + j, none⟩ = some (us j) ∧ Bor w (rdSet R g m) (us j) c) :
      SRel num w R g h ep v (.bptr m row off)
  | mapr (id : Nat) (v : Value) (h1 : v.oneCell' = true) (hu : g.used id) (hv : ∀ o, h id = some o → v = g.v id) : SRel num w R g h ep v (.mapr id)
  | fn (k : Nat) (f : FuncId) (hk : num k = some f) : SRel num w R g h ep (.func (.func f) #[] #[]) (.fn k)
  | inn (e id i off : Nat) (v : Value) (h1 : v.oneCell' = true) (hu : g.used id) (hle : e ≤ ep)
      (hv : e = ep → ∀ sz xs, h id = some (.arr sz xs) → ∃ b n c, g.v id = .slice (some ⟨b, 0, none⟩) n c ∧ g.N b ∧ w.cell? ⟨b, i * sz + off, none⟩ = some v) : SRel num w R g h ep v (.inn e id i off)
  | agg (vs : Array Value) (cs : List AV) (hl : vs.size = cs.length) (h1 : ∀ (i : Nat) (v : Value), vs[i]? = some v → v.oneCell' = true) (hc : ∀ (i : Nat) (v : Value) (c : AV), vs[i]? = some v → cs[i]? = some c → SRel num w R g h ep v c) :
      SRel num w R g h ep (.agg vs) (.agg cs)
  | tup (vs : Array Value) (cs : List AV) (hl : vs.size = cs.length) (hc : ∀ (i : Nat) (v : Value) (c : AV), vs[i]? = some v → cs[i]? = some c → SRel num w R g h ep v c) : SRel num w R g h ep (.tuple vs) (.tup cs)

/-- What may happen to memory without a slot's noticing. -/
structure Keeps (w : World) (R : Nat → Prop) (g : Gh) (h : Nat → Option AO) (ep : Nat) (w' : World) (g' : Gh) (h' : Nat → Option AO) (ep' : Nat) : Prop where
  R : Same w w' R
  I : Same w w' g.I
  Iup : ∀ b, g.I b → g'.I b
  N : ep' = ep → Same w w' g.N
  Nup : ∀ b, g.N b → g'.N b
  epup : ep ≤ ep'
  used : ∀ id, g.used id → g'.used id
  objs : ∀ id o', g.used id → h' id = some o' → ∃ o, h id = some o ∧ o.alike o' ∧ g'.v id = g.v id

theorem Md.ok_later {m : Md} {ep ep' : Nat} (hlim : ∀ e, m = .snap e → e ≤ ep) (hep : ep ≤ ep') (h : m.ok ep' = true) : m.ok ep = true ∧ (∀ e, m = .snap e → ep' = ep) := by
  cases m with
  | own => simp [Md.ok] at h
  | imm => exact ⟨rfl, fun e he => by cases he⟩
  | bor => exact ⟨rfl, fun e he => by cases he⟩
  | snap e =>
    simp only [Md.ok, beq_iff_eq] at h
    have := hlim e rfl
    have he : ep' = ep := by omega
    exact ⟨by simp [Md.ok]; omega, fun _ _ => he⟩

section
variable {num : Nat → Option FuncId} {w : World} {R : Nat → Prop} {g : Gh} {h : Nat → Option AO} {ep : Nat} {w' : World} {g' : Gh} {h' : Nat → Option AO} {ep' : Nat}

theorem Keeps.same (k : Keeps w R g h ep w' g' h' ep') {m : Md} (hm : m.ok ep' = true) (he : ∀ e, m = .snap e → ep' = ep) : Same w w' (rdSet R g m) ∧ ∀ b, rdSet R g m b → rdSet R g' m b := by
  cases m with
  | own => simp [Md.ok] at hm
  | imm => exact ⟨k.I, k.Iup⟩
  | bor => exact ⟨k.R, fun _ h => h⟩
  | snap e => exact ⟨k.N (he e rfl), k.Nup⟩

theorem SRel.mono {v : Value} {c : AV} (hr : SRel num w R g h ep v c) (k : Keeps w R g h ep w' g' h' ep') : SRel num w' R g' h' ep' v c := by
  induction hr with
  | any v => exact .any v
  | bool b => exact .bool b
  | int k n => exact .int k n
  | str s => exact .str s
  | nil sz => exact .nil sz
  | sl v m sz xs h1 hm hlim hown =>
    refine .sl v m sz xs h1 (fun hok => ?_) (fun e he => Nat.le_trans (hlim e he) k.epup) hown
    obtain ⟨ho, he⟩ := Md.ok_later hlim k.epup hok
    obtain ⟨hs, hup⟩ := k.same hok he
    exact (hm ho).mono hs hup
  | ref id v h1 hu hv =>
    refine .ref id v h1 (k.used id hu) (fun o' ho' => ?_)
    obtain ⟨o, ho, _, hg⟩ := k.objs id o' hu ho'
    rw [hg]; exact hv o ho
  | view id lo len v h1 hu hv =>
    refine .view id lo len v h1 (k.used id hu) (fun sz xs ho' => ?_)
    obtain ⟨o, ho, ha, hg⟩ := k.objs id _ hu ho'
    rw [hg]
    cases o with
    | arr sz' xs' => simp only [AO.alike] at ha; subst ha; exact hv _ _ ho
    | box _ => exact ha.elim
    | map _ _ => exact ha.elim
  | ptr id i off v h1 hu hv =>
    refine .ptr id i off v h1 (k.used id hu) (fun o' ho' => ?_)
    obtain ⟨o, ho, ha, hg⟩ := k.objs id _ hu ho'
    have hp := hv o ho
    rw [hg]
    cases o <;> cases o' <;> simp only [AO.alike] at ha <;> first | exact hp | (subst ha; exact hp)
  | bptr m row off v h1 hlim hm =>
    refine .bptr m row off v h1 (fun e he => Nat.le_trans (hlim e he) k.epup) (fun hok => ?_)
    obtain ⟨ho, he⟩ := Md.ok_later hlim k.epup hok
    obtain ⟨hs, hup⟩ := k.same hok he
    obtain ⟨b, o, us, hv, hb, hc⟩ := hm ho
    refine ⟨b, o, us, hv, hup b hb, fun j c hj => ?_⟩
    obtain ⟨h1, h2⟩ := hc j c hj
    exact ⟨by rw [hs.cell (by exact hb)]; exact h1, h2.mono hs hup⟩
  | mapr id v h1 hu hv =>
    refine .mapr id v h1 (k.used id hu) (fun o' ho' => ?_)
    obtain ⟨o, ho, _, hg⟩ := k.objs id o' hu ho'
    rw [hg]; exact hv o ho
  | fn k f hk => exact .fn k f hk
  | inn e id i off v h1 hu hle hv =>
    refine .inn e id i off v h1 (k.used id hu) (Nat.le_trans hle k.epup) (fun he sz xs ho' => ?_)
    have h3 := k.epup
    have h4 : ep' = ep := by omega
    obtain ⟨o, ho, ha, hg⟩ := k.objs id _ hu ho'
    cases o with
    | arr sz' xs' =>
      simp only [AO.alike] at ha; subst ha
      obtain ⟨b, n, c, h5, h6, h7⟩ := hv (by omega) _ _ ho
      exact ⟨b, n, c, hg.trans h5, k.Nup b h6, ((k.N h4).cell (by exact h6)).trans h7⟩
    | box _ => exact ha.elim
    | map _ _ => exact ha.elim
  | agg vs cs hl h1 _ ih => exact .agg vs cs hl h1 ih
  | tup vs cs hl _ ih => exact .tup vs cs hl ih

/-- A value that has one cell. -/
theorem SRel.one {v : Value} {c : AV} (hr : SRel num w R g h ep v c) (hp : c.parts = some [c]) : v.oneCell' = true := by
  cases hr <;> first | rfl | assumption | (simp [AV.parts] at hp; done) | (simp only [AV.parts, Option.some.injEq] at hp; have := congrArg SizeOf.sizeOf hp; simp at this; omega)

/-! ### The objects -/
def ORel (num : Nat → Option FuncId) (w : World) (R : Nat → Prop) (g : Gh) (h : Nat → Option AO) (ep : Nat) (v : Value) (S : Nat → Prop) : AO → Prop
  | .box cells => ∃ b cur e, v = .pointer (some ⟨b, 0, none⟩) ∧ w.heap[b]? = some (.cells cur e (0, 0)) ∧ cur.size = cells.length ∧ (∀ x, S x ↔ x = b) ∧ ¬ g.N b ∧
      ∀ (i : Nat) (u : Value) (c : AV), cur[i]? = some u → cells[i]? = some c → u.oneCell' = true ∧ SRel num w R g h ep u c
  | .arr sz xs => Cl w g.I v (.sl .own sz xs) S ∧ ∀ x, S x → g.N x
  | .map kb kvs => ∃ (b : Nat) (es : Array MapEntry) (clock : Nat), v = .map (some b) ∧ w.heap[b]? = some (.map es clock) ∧ (∀ x, S x ↔ x = b) ∧ ¬ g.N b ∧ es.size = kvs.length ∧
      ∀ (i : Nat) (m : MapEntry) (k : ByteArray) (c : AV), es[i]? = some m → kvs[i]? = some (k, c) → m.key = keyV kb k ∧ keyIs kb k ∧ c.plain = true ∧ SRel num w R g h ep m.val c

theorem ORel.mono {v : Value} {S : Nat → Prop} {o : AO} (hr : ORel num w R g h ep v S o) (k : Keeps w R g h ep w' g' h' ep') (hs : Same w w' S) (hN : ∀ b, S b → g'.N b → g.N b) : ORel num w' R g' h' ep' v S o := by
  cases o with
  | box cells =>
    obtain ⟨b, cur, e, hv, hh, hsz, hS, hn, hc⟩ := hr
    have hb := (hS b).2 rfl
    exact ⟨b, cur, e, hv, (hs b hb).trans hh, hsz, hS, fun h => hn (hN b hb h), fun i u c hu hi => ⟨(hc i u c hu hi).1, (hc i u c hu hi).2.mono k⟩⟩
  | arr sz xs => exact ⟨hr.1.mono hs k.I k.Iup, fun x hx => k.Nup x (hr.2 x hx)⟩
  | map kb kvs =>
    obtain ⟨b, es, cl, hv, hh, hS, hn, hsz, hc⟩ := hr
    have hb := (hS b).2 rfl
    exact ⟨b, es, cl, hv, (hs b hb).trans hh, hS, fun h => hn (hN b hb h), hsz, fun i m k' c hm hi => ⟨(hc i m k' c hm hi).1, (hc i m k' c hm hi).2.1, (hc i m k' c hm hi).2.2.1, (hc i m k' c hm hi).2.2.2.mono k⟩⟩

theorem ORel.lt {v : Value} {S : Nat → Prop} {o : AO} (hr : ORel num w R g h ep v S o) : ∀ b, S b → b < w.heap.size := by
  cases o with
  | box cells =>
    obtain ⟨b, cur, e, hv, hh, hsz, hS, hn, hc⟩ := hr
    intro x hx
    rw [(hS x).1 hx]
    exact (Array.getElem?_eq_some_iff.1 hh).1
  | arr sz xs => exact hr.1.lt
  | map kb kvs =>
    obtain ⟨b, es, cl, hv, hh, hS, hn, hsz, hc⟩ := hr
    intro x hx
    rw [(hS x).1 hx]
    exact (Array.getElem?_eq_some_iff.1 hh).1

theorem ORel.one {v : Value} {S : Nat → Prop} {o : AO} (hr : ORel num w R g h ep v S o) : v.oneCell' = true := by
  cases o with
  | box cells => obtain ⟨b, cur, e, rfl, _⟩ := hr; rfl
  | arr sz xs => exact hr.1.one
  | map kb kvs => obtain ⟨b, es, cl, rfl, _⟩ := hr; rfl
end

/-! ### A call's frame, and all of its memory -/
structure FrameW (w w' : World) (M : Nat → Prop) : Prop where
  os : w'.os = w.os
  tape : w'.tape = w.tape
  output : w'.output = w.output
  size : w.heap.size ≤ w'.heap.size
  block : ∀ b, b < w.heap.size → ¬ M b → w'.heap[b]? = w.heap[b]?

theorem FrameW.refl (w : World) (M : Nat → Prop) : FrameW w w M := ⟨rfl, rfl, rfl, Nat.le_refl _, fun _ _ _ => rfl⟩

/-- A call: its program, what it reads on loan, what it may write, what nobody writes, where its arrays lie, its first world; what came with it. -/
structure Cx where
  P : Program
  num : Nat → Option FuncId
  R : Nat → Prop
  M : Nat → Prop
  I0 : Nat → Prop
  N0 : Nat → Prop
  w0 : World
  base : Nat
  h0 : Nat → Option AO
  v0 : Nat → Value

structure Mem (cx : Cx) (h : Nat → Option AO) (ep : Nat) (g : Gh) (w : World) : Prop where
  objs : ∀ id o, h id = some o → ORel cx.num w cx.R g h ep (g.v id) (g.fp id) o
  used : ∀ id o, h id = some o → g.used id
  disj : ∀ id id' o o' b, h id = some o → h id' = some o' → g.fp id b → g.fp id' b → id = id'
  mine : ∀ id o b, h id = some o → g.fp id b → (cx.M b ∨ cx.w0.heap.size ≤ b) ∧ ¬ g.I b
  I_lt : ∀ b, g.I b → b < w.heap.size
  I_up : ∀ b, cx.I0 b → g.I b
  I_new : ∀ b, g.I b → cx.I0 b ∨ (cx.M b ∨ cx.w0.heap.size ≤ b)
  I_N : ∀ b, g.I b → g.N b
  N_up : ∀ b, cx.N0 b → g.N b
  N_new : ∀ b, g.N b → cx.N0 b ∨ cx.w0.heap.size ≤ b
  usedB : ∀ id, id < cx.base → g.used id
  given : ∀ id o', id < cx.base → h id = some o' → ∃ o, cx.h0 id = some o ∧ o.alike o' ∧ g.v id = cx.v0 id
  N_lt : ∀ b, g.N b → b < w.heap.size
  R_old : ∀ b, cx.R b → b < cx.w0.heap.size ∧ ¬ cx.M b
  I_old : ∀ b, cx.I0 b → b < cx.w0.heap.size ∧ ¬ cx.M b
  frame : FrameW cx.w0 w cx.M

structure Corr (cx : Cx) (nt : Nat) (s : St) (g : Gh) (a : Act) (w : World) : Prop where
  size : a.tmps.size = nt
  defers : a.defers = []
  slots : ∀ t, SRel cx.num w cx.R g s.heap s.ep (a.tmps.getD t undef) (s.slots t)
  mem : Mem cx s.heap s.ep g w

section
variable {cx : Cx} {h h' : Nat → Option AO} {ep ep' : Nat} {g g' : Gh} {w w' : World}

/-- A block of one of these objects. -/
def Of (T : Nat → Prop) (h : Nat → Option AO) (g : Gh) (b : Nat) : Prop := ∃ id o, T id ∧ h id = some o ∧ g.fp id b

/-- WHAT AN OPERATION DOES TO MEMORY: it touches the objects T; the rest is as it was. -/
structure Touch (cx : Cx) (T : Nat → Prop) (h : Nat → Option AO) (ep : Nat) (g : Gh) (w : World) (h' : Nat → Option AO) (ep' : Nat) (g' : Gh) (w' : World) : Prop where
  os : w'.os = w.os
  tape : w'.tape = w.tape
  output : w'.output = w.output
  size : w.heap.size ≤ w'.heap.size
  epup : ep ≤ ep'
  rest : ∀ id, ¬ T id → h' id = h id ∧ (h id ≠ none → g'.v id = g.v id ∧ g'.fp id = g.fp id)
  block : ∀ b, b < w.heap.size → ¬ Of T h g b → w'.heap[b]? = w.heap[b]?
  used : ∀ id, g.used id → g'.used id
  used' : ∀ id o, T id → h' id = some o → g'.used id
  alive : ∀ id o', T id → g.used id → h' id = some o' → ∃ o, h id = some o ∧ o.alike o' ∧ g'.v id = g.v id
  fps : ∀ id o b, T id → h' id = some o → g'.fp id b → (w.heap.size ≤ b ∨ Of T h g b) ∧ ¬ g'.I b
  dis : ∀ id id' o o' b, T id → T id' → h' id = some o → h' id' = some o' → g'.fp id b → g'.fp id' b → id = id'
  Iup : ∀ b, g.I b → g'.I b
  Inew : ∀ b, g'.I b → g.I b ∨ Of T h g b ∨ (w.heap.size ≤ b ∧ b < w'.heap.size)
  IN : ∀ b, g'.I b → g'.N b
  Nup : ∀ b, g.N b → g'.N b
  Nnew : ∀ b, g'.N b → g.N b ∨ (w.heap.size ≤ b ∧ b < w'.heap.size)
  Nsame : ep' = ep → Same w w' g.N

theorem Touch.keeps {T : Nat → Prop} (t : Touch cx T h ep g w h' ep' g' w') (m : Mem cx h ep g w) : Keeps w cx.R g h ep w' g' h' ep' := by
  refine ⟨?_, ?_, t.Iup, t.Nsame, t.Nup, t.epup, t.used, ?_⟩
  · intro b hb
    obtain ⟨h1, h2⟩ := m.R_old b hb
    refine t.block b (Nat.lt_of_lt_of_le h1 m.frame.size) ?_
    rintro ⟨id, o, _, ho, hf⟩
    rcases (m.mine id o b ho hf).1 with h3 | h3
    · exact h2 h3
    · omega
  · intro b hb
    refine t.block b (m.I_lt b hb) ?_
    rintro ⟨id, o, _, ho, hf⟩
    exact (m.mine id o b ho hf).2 hb
  · intro id o' hu ho'
    by_cases hT : T id
    · exact t.alive id o' hT hu ho'
    · obtain ⟨h1, h2⟩ := t.rest id hT
      rw [h1] at ho'
      exact ⟨o', ho', AO.alike_refl _, (h2 (by rw [ho']; simp)).1⟩

theorem Touch.mem {T : Nat → Prop} (t : Touch cx T h ep g w h' ep' g' w') (m : Mem cx h ep g w)
    (hobj : ∀ id o, T id → h' id = some o → ORel cx.num w' cx.R g' h' ep' (g'.v id) (g'.fp id) o) : Mem cx h' ep' g' w' := by
  have k := t.keeps m
  have hrest : ∀ id o, ¬ T id → h' id = some o → h id = some o ∧ g'.v id = g.v id ∧ g'.fp id = g.fp id := fun id o hT ho => by
    obtain ⟨h1, h2⟩ := t.rest id hT
    rw [h1] at ho
    exact ⟨ho, h2 (by rw [ho]; simp)⟩
  have hapart : ∀ id o b, ¬ T id → h id = some o → g.fp id b → ¬ Of T h g b := by
    rintro id o b hT ho hf ⟨id0, o0, hT0, ho0, hf0⟩
    exact hT (m.disj id id0 o o0 b ho ho0 hf hf0 ▸ hT0)
  have hsame : ∀ id o, ¬ T id → h id = some o → Same w w' (g.fp id) := fun id o hT ho b hb =>
    t.block b ((m.objs id o ho).lt b hb) (hapart id o b hT ho hb)
  refine ⟨?_, ?_, ?_, ?_, ?_, ?_, ?_, t.IN, fun b hb => t.Nup b (m.N_up b hb), ?_, fun id hid => t.used id (m.usedB id hid), ?_, ?_, m.R_old, m.I_old, ?_⟩
  · intro id o ho
    by_cases hT : T id
    · exact hobj id o hT ho
    · obtain ⟨h1, h2, h3⟩ := hrest id o hT ho
      rw [h2, h3]
      refine (m.objs id o h1).mono k (hsame id o hT h1) (fun b hb hn => ?_)
      rcases t.Nnew b hn with h4 | h4
      · exact h4
      · have := (m.objs id o h1).lt b hb
        omega
  · intro id o ho
    by_cases hT : T id
    · exact t.used' id o hT ho
    · exact t.used id (m.used id o (hrest id o hT ho).1)
  · intro id id' o o' b ho ho' hf hf'
    by_cases hT : T id <;> by_cases hT' : T id'
    · exact t.dis id id' o o' b hT hT' ho ho' hf hf'
    · obtain ⟨h1, h2, h3⟩ := hrest id' o' hT' ho'
      rw [h3] at hf'
      rcases (t.fps id o b hT ho hf).1 with h4 | h4
      · have := (m.objs id' o' h1).lt b hf'
        omega
      · exact absurd h4 (hapart id' o' b hT' h1 hf')
    · obtain ⟨h1, h2, h3⟩ := hrest id o hT ho
      rw [h3] at hf
      rcases (t.fps id' o' b hT' ho' hf').1 with h4 | h4
      · have := (m.objs id o h1).lt b hf
        omega
      · exact absurd h4 (hapart id o b hT h1 hf)
    · obtain ⟨h1, h2, h3⟩ := hrest id o hT ho
      obtain ⟨h1', h2', h3'⟩ := hrest id' o' hT' ho'
      rw [h3] at hf
      rw [h3'] at hf'
      exact m.disj id id' o o' b h1 h1' hf hf'
  · intro id o b ho hf
    by_cases hT : T id
    · obtain ⟨h1, h2⟩ := t.fps id o b hT ho hf
      refine ⟨?_, h2⟩
      rcases h1 with h1 | ⟨id0, o0, _, ho0, hf0⟩
      · exact .inr (Nat.le_trans m.frame.size h1)
      · exact (m.mine id0 o0 b ho0 hf0).1
    · obtain ⟨h1, h2, h3⟩ := hrest id o hT ho
      rw [h3] at hf
      refine ⟨(m.mine id o b h1 hf).1, fun hi => ?_⟩
      rcases t.Inew b hi with h4 | h4 | h4
      · exact (m.mine id o b h1 hf).2 h4
      · exact hapart id o b hT h1 hf h4
      · have := (m.objs id o h1).lt b hf
        omega
  · intro b hb
    rcases t.Inew b hb with h1 | ⟨id, o, _, ho, hf⟩ | h1
    · exact Nat.lt_of_lt_of_le (m.I_lt b h1) t.size
    · exact Nat.lt_of_lt_of_le ((m.objs id o ho).lt b hf) t.size
    · exact h1.2
  · exact fun b hb => t.Iup b (m.I_up b hb)
  · intro b hb
    rcases t.Inew b hb with h1 | ⟨id, o, _, ho, hf⟩ | h1
    · exact m.I_new b h1
    · exact .inr (m.mine id o b ho hf).1
    · exact .inr (.inr (Nat.le_trans m.frame.size h1.1))
  · intro b hb
    rcases t.Nnew b hb with h1 | h1
    · exact m.N_new b h1
    · exact .inr (Nat.le_trans m.frame.size h1.1)
  · intro id o' hid ho'
    obtain ⟨o, ho, ha, hv⟩ := k.objs id o' (m.usedB id hid) ho'
    obtain ⟨o0, ho0, ha0, hv0⟩ := m.given id o hid ho
    exact ⟨o0, ho0, ha0.trans ha, hv.trans hv0⟩
  · intro b hb
    rcases t.Nnew b hb with h1 | h1
    · exact Nat.lt_of_lt_of_le (m.N_lt b h1) t.size
    · exact h1.2
  · refine ⟨t.os.trans m.frame.os, t.tape.trans m.frame.tape, t.output.trans m.frame.output, Nat.le_trans m.frame.size t.size, fun b hb hM => ?_⟩
    rw [t.block b (Nat.lt_of_lt_of_le hb m.frame.size) ?_]
    · exact m.frame.block b hb hM
    · rintro ⟨id, o, _, ho, hf⟩
      rcases (m.mine id o b ho hf).1 with h3 | h3
      · exact hM h3
      · omega

/-- Memory is as it was: an operation that only computes. -/
theorem Keeps.refl (w : World) (R : Nat → Prop) (g : Gh) (h : Nat → Option AO) (ep : Nat) : Keeps w R g h ep w g h ep :=
  ⟨Same.refl _ _, Same.refl _ _, fun _ h => h, fun _ => Same.refl _ _, fun _ h => h, Nat.le_refl _, fun _ h => h, fun _ o' _ ho => ⟨o', ho, AO.alike_refl _, rfl⟩⟩
end

/-! ### Slots -/
theorem getD_setIfInBounds (a : Array Value) (d t : Nat) (v : Value) (hd : d < a.size) : (a.setIfInBounds d v).getD t undef = if t = d then v else a.getD t undef := by
  simp only [Array.getD_eq_getD_getElem?, Array.getElem?_setIfInBounds]
  by_cases h : t = d
  · subst h
    simp [hd]
  · rw [if_neg (fun e => h e.symm), if_neg h]

theorem Corr.put {cx : Cx} {nt : Nat} {s : St} {g : Gh} {a : Act} {w : World} {h' : Nat → Option AO} {ep' : Nat} {g' : Gh} {w' : World} {nx bs : Nat} (c : Corr cx nt s g a w) (k : Keeps w cx.R g s.heap s.ep w' g' h' ep') (m : Mem cx h' ep' g' w')
    (dst : Option Nat) (hd : ∀ d, dst = some d → d < nt) (v : Value) (x : AV) (hv : SRel cx.num w' cx.R g' h' ep' v x) : Corr cx nt ⟨putTo s.slots dst x, h', ep', nx, bs⟩ g' (a.put dst v) w' := by
  cases dst with
  | none => exact ⟨c.size, c.defers, fun t => (c.slots t).mono k, m⟩
  | some d =>
    have hd' : d < a.tmps.size := by rw [c.size]; exact hd d rfl
    refine ⟨by simp [Act.put, c.size], c.defers, fun t => ?_, m⟩
    simp only [Act.put, putTo, upd, getD_setIfInBounds _ _ _ _ hd']
    split
    · exact hv
    · exact (c.slots t).mono k
end Go.Proofs.Ytfebkfeobdffjaa
