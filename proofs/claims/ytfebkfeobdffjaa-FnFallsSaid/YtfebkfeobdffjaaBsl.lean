/- Each operation of the model does what the abstract machine's does: literals of slices, make. -/
import Derived.Test.YtfebkfeobdffjaaSto
namespace Go.Proofs.Ytfebkfeobdffjaa
open Go Go.RowKit
set_option linter.unusedSimpArgs false

/-! ### Zero values -/
def zeroB : Value → AV → Bool
  | .bool a, .bool b => a == b
  | .int k n, .int k' n' => decide (k = k') && n == n'
  | .string s, .str t => s.data == t.data
  | .slice none 0 0, .sl .own _ [] => true
  | v, .any => v.oneCell'
  | _, _ => false

def zerosB : List Value → List AV → Bool
  | [], [] => true
  | v :: vs, c :: cs => zeroB v c && zerosB vs cs
  | _, _ => false

theorem zeroB_cl {v : Value} {c : AV} (h : zeroB v c = true) (w : World) (I : Nat → Prop) : Cl w I v c (fun _ => False) := by
  unfold zeroB at h
  split at h
  · rw [eq_of_beq h]; exact .bool _ _ (fun _ h => h)
  · simp only [Bool.and_eq_true, decide_eq_true_eq, beq_iff_eq] at h
    obtain ⟨rfl, rfl⟩ := h
    exact .int _ _ _ (fun _ h => h)
  · rename_i s t
    have := eq_of_beq h
    have he : s = t := by cases s; cases t; simpa using this
    subst he
    exact .str _ _ (fun _ h => h)
  · exact .nil _ _ (fun _ h => h)
  · exact .any _ _ h (fun _ h => h)
  · cases h

theorem zeroB_rel {v : Value} {c : AV} (h : zeroB v c = true) (num : Nat → Option FuncId) (w : World) (R : Nat → Prop) (g : Gh) (hp : Nat → Option AO) (ep : Nat) : v.oneCell' = true ∧ SRel num w R g hp ep v c := by
  refine ⟨(zeroB_cl h w (fun _ => False)).one, ?_⟩
  unfold zeroB at h
  split at h
  · rw [eq_of_beq h]; exact .bool _
  · simp only [Bool.and_eq_true, decide_eq_true_eq, beq_iff_eq] at h
    obtain ⟨rfl, rfl⟩ := h
    exact .int _ _
  · rename_i s t
    have := eq_of_beq h
    have he : s = t := by cases s; cases t; simpa using this
    subst he
    exact .str _
  · exact .nil _
  · exact .any _
  · cases h

theorem zerosB_get : ∀ {vs : List Value} {cs : List AV}, zerosB vs cs = true → vs.length = cs.length ∧ ∀ (j : Nat) (u : Value) (c : AV), vs[j]? = some u → cs[j]? = some c → zeroB u c = true
  | [], [], _ => ⟨rfl, fun j u c h => by simp at h⟩
  | v :: vs, c :: cs, h => by
    simp only [zerosB, Bool.and_eq_true] at h
    obtain ⟨h1, h2⟩ := zerosB_get h.2
    refine ⟨by simp [h1], fun j u d hu hd => ?_⟩
    cases j with
    | zero =>
      simp only [List.getElem?_cons_zero, Option.some.injEq] at hu hd
      subst hu; subst hd
      exact h.1
    | succ j => exact h2 j u d (by simpa using hu) (by simpa using hd)
  | [], _ :: _, h => by cases h
  | _ :: _, [], h => by cases h

theorem zerosB_cells {z : Value} {zs : List AV} (h : zerosB z.cells.toList zs = true) (num : Nat → Option FuncId) (w : World) (R : Nat → Prop) (g : Gh) (hp : Nat → Option AO) (ep : Nat) : CellsRel num w R g hp ep z.cells zs := by
  obtain ⟨h1, h2⟩ := zerosB_get h
  refine ⟨by simpa using h1, fun i u c hu hc => zeroB_rel (h2 i u c (by simpa using hu) hc) _ _ _ _ _ _⟩

/-- What moves in was there. -/
theorem absorb_alive {h : Nat → Option AO} : ∀ {vs cs : List AV} {is : List Nat}, absorb h vs = some (cs, is) → ∀ i ∈ is, ∃ sz0 xs0, h i = some (.arr sz0 xs0)
  | [], cs, is, ha, i, hi => by
    simp only [absorb, Option.some.injEq, Prod.mk.injEq] at ha
    rw [← ha.2] at hi
    simp at hi
  | x :: vs, cs, is, ha, i, hi => by
    simp only [absorb] at ha
    cases h1 : absorb1 h x with
    | none => rw [h1] at ha; cases ha
    | some p =>
      obtain ⟨d, i1⟩ := p
      rw [h1] at ha
      cases h2 : absorb h vs with
      | none => rw [h2] at ha; cases ha
      | some q =>
        obtain ⟨ds, js⟩ := q
        rw [h2] at ha
        simp only [Option.some.injEq, Prod.mk.injEq] at ha
        rw [← ha.2] at hi
        rcases List.mem_append.1 hi with h3 | h3
        · cases x <;> simp only [absorb1, reduceCtorEq, Option.some.injEq, Prod.mk.injEq] at h1 <;> try (rw [← h1.2] at h3; simp at h3; done)
          · rename_i md sz xs
            cases md <;> cases xs <;> simp only [reduceCtorEq, Option.some.injEq, Prod.mk.injEq] at h1 <;> (rw [← h1.2] at h3; simp at h3)
          · rename_i id
            cases hh : h id with
            | none => rw [hh] at h1; cases h1
            | some ob =>
              rw [hh] at h1
              cases ob <;> simp only [reduceCtorEq, Option.some.injEq, Prod.mk.injEq] at h1
              rw [← h1.2, List.mem_singleton] at h3
              exact ⟨_, _, h3 ▸ hh⟩
        · exact absorb_alive h2 i h3

section
variable {cx : Cx} {s : St} {g : Gh} {a : Act} {w : World} {o : Oper} {key : Nat} {out : Out} {cl : Callee}

/-- A new array; what went into it is gone from the slots. -/
theorem done_arr_new (m : Mem cx s.heap s.ep g w) (hk : ¬ g.used key) {sz : Nat} {rows : List (List AV)} {is : List Nat} {us : Nat → Nat → Value} {fs : Nat → Nat → Nat → Prop} {cur : Array Value} {e : TypeId} {w1 : World}
    (hrows : Rows w g.I sz rows us fs) (hcell : ∀ i j c, cellAt rows i j = some c → cur[i * sz + j]? = some (us i j)) (hcur : rows.length * sz ≤ cur.size) (hmax : rows.length ≤ maxLen)
    (his : ∀ i ∈ is, ∃ sz0 xs0, s.heap i = some (.arr sz0 xs0)) (hF : ∀ x, Fall rows fs x → ∃ i sz0 xs0, i ∈ is ∧ s.heap i = some (.arr sz0 xs0) ∧ g.fp i x) (p : Pushed w w1 (.cells cur e))
    (hrun : (execOp a.eval o).run cx.P w = .ok (.value (.slice (some ⟨w.heap.size, 0, none⟩) rows.length rows.length)) w1) (h : out = ⟨.ref key, (key, some (.arr sz rows)) :: kill is, false⟩) : Done cx s g a w o key out := by
  subst h
  let F : Nat → Prop := fun x => x = w.heap.size ∨ Fall rows fs x
  let v : Value := .slice (some ⟨w.heap.size, 0, none⟩) rows.length rows.length
  have hkis : key ∉ is := fun hm => by obtain ⟨_, _, ho⟩ := his key hm; exact hk (m.used key _ ho)
  have hh : wsOn s.heap ((key, some (.arr sz rows)) :: kill is) = fun id => if id ∈ is then none else if id = key then some (.arr sz rows) else s.heap id := by
    funext id; rw [wsOn, wsOn_kill]; rfl
  have t := touch_new (ep' := s.ep) m hk (is := is) (fun i hi => by obtain ⟨_, _, ho⟩ := his i hi; exact ⟨_, ho⟩) (o := .arr sz rows) (v := v) (F := F) (arr := true) p (Nat.le_refl _)
    (fun b hb => hb.imp id fun hb => by obtain ⟨i, sz0, xs0, h1, h2, h3⟩ := hF b hb; exact ⟨i, _, h1, h2, h3⟩)
  have k := t.keeps m
  have hlt : ∀ x, Fall rows fs x → x < w.heap.size := fun x hx => by
    obtain ⟨i, sz0, xs0, h1, h2, h3⟩ := hF x hx
    exact (m.objs i _ h2).lt x h3
  have hcl : Cl w1 g.I v (.sl .own sz rows) F := hrows.own (w1 := w1) (b := w.heap.size) (cap := rows.length) p.new (Nat.le_refl _) hmax hcur hcell (fun x hx => p.old (hlt x hx)) (fun x hx => p.old (m.I_lt x hx))
    (fun hx => Nat.lt_irrefl _ (hlt _ hx))
  refine ⟨_, v, w1, newGh g w key v F true, hrun, .inl rfl, ?_, ?_, ?_, ?_⟩
  · simp only [hh]; exact k
  · simp only [hh]
    refine t.mem m (fun id o' hT ho => ?_)
    by_cases h2 : id ∈ is
    · simp [h2] at ho
    · have he := hT.resolve_right h2
      subst he
      simp only [h2, if_false, if_true, Option.some.injEq] at ho
      subst ho
      simp only [newGh, upd, if_true]
      refine ⟨hcl, fun x hx => ?_⟩
      rcases hx with hx | hx
      · exact .inr ⟨by simp, hx⟩
      · obtain ⟨i, sz0, xs0, h1, h2, h3⟩ := hF x hx
        exact .inl ((m.objs i _ h2).2 x h3)
  · simp only [hh]
    refine .ref _ _ rfl (.inr rfl) (fun o' _ => ?_)
    simp [newGh, upd, v]
  · intro id hu
    rcases hu with hu | rfl
    · exact .inl hu
    · exact .inr ⟨Nat.le_refl _, by omega⟩

theorem madeCells_get {z : Value} {n sz i j : Nat} (hz : z.cells.size = sz) (hi : i < n) (hj : j < sz) : (madeCells z.cells (n * sz))[i * sz + j]? = z.cells[j]? := by
  have h1 : i * sz + j < n * sz := by
    have : (i + 1) * sz ≤ n * sz := Nat.mul_le_mul_right _ hi
    rw [Nat.add_mul] at this
    omega
  have h3 : (i * sz + j) % sz = j := by rw [Nat.mul_comm, Nat.mul_add_mod, Nat.mod_eq_of_lt hj]
  have hjz : j < z.cells.size := by omega
  simp only [madeCells, Array.getElem?_map, Array.getElem?_range, h1, if_true, Option.map_some, hz, h3]
  rw [getElem!_pos z.cells j hjz, Array.getElem?_eq_getElem hjz]

theorem cellAt_replicate {n : Nat} {zs : List AV} {i j : Nat} {c : AV} (h : cellAt (List.replicate n zs) i j = some c) : i < n ∧ zs[j]? = some c := by
  obtain ⟨row, h1, h2⟩ := cellAt_some.1 h
  rw [List.getElem?_replicate] at h1
  split at h1
  · obtain rfl := Option.some.inj h1
    exact ⟨by assumption, h2⟩
  · cases h1

theorem zero_row {z : Value} {zs : List AV} {sz n : Nat} (hzr : zerosB z.cells.toList zs = true) (hz : z.cells.size = sz) {i j : Nat} {c : AV} (hc : cellAt (List.replicate n zs) i j = some c) :
    ∃ u, (madeCells z.cells (n * sz))[i * sz + j]? = some u ∧ u = z.cells[j]?.getD undef ∧ zeroB u c = true := by
  obtain ⟨h1, h2⟩ := cellAt_replicate hc
  obtain ⟨hl, hg⟩ := zerosB_get hzr
  have hj := (List.getElem?_eq_some_iff.1 h2).1
  have hj2 : j < z.cells.size := by simp at hl; omega
  rw [madeCells_get hz h1 (by omega)]
  have hu : z.cells[j]? = some z.cells[j] := Array.getElem?_eq_getElem hj2
  exact ⟨_, hu, by rw [hu]; rfl, hg j _ _ (by rw [Array.getElem?_toList]; exact hu) h2⟩

theorem done_mksl (m : Mem cx s.heap s.ep g w) (hk : ¬ g.used key) {t e : TypeId} {i0 : TypeInfo} {z : Value} {zs : List AV} {x1 x2 : Operand} {y : Opd} (ho : o.op = .makeSlice t x1 x2) (hx : a.eval x2 = a.eval x1) (ht : cx.P.underlying t = some (.slice e)) (hi : cx.P.info? e = some i0)
    (hz : i0.zero = some z) (hzs : z.cells.size = i0.size) (hzr : zerosB z.cells.toList zs = true) (hb : 1 ≤ i0.bytes) (h1 : SRel cx.num w cx.R g s.heap s.ep (a.eval x1) (y.ev s.slots))
    (h : sem cl (.mksl i0.size zs i0.bytes y) key s.slots s.heap s.ep = some out) : Done cx s g a w o key out := by
  simp only [sem] at h
  generalize y.ev s.slots = c1 at h h1
  generalize e1 : a.eval x1 = v1 at h1
  cases c1 <;> try (cases h; done)
  rename_i k n
  cases k <;> try (cases h; done)
  dsimp only at h
  split at h
  case isFalse => cases h
  rename_i hn
  cases h1
  obtain ⟨hl0, hg0⟩ := zerosB_get hzr
  rw [Array.length_toList] at hl0
  have hn1 : (n.toNat : Int) = n := Int.toNat_of_nonneg hn.1
  have hn2 : n.toNat * i0.bytes ≤ 140737488355328 := by
    have h2 := hn.2
    have h3 : ((n.toNat * i0.bytes : Nat) : Int) = n * i0.bytes := by rw [Int.natCast_mul, hn1]
    omega
  have hn3 : n.toNat ≤ maxLen := by
    have : n.toNat * 1 ≤ n.toNat * i0.bytes := Nat.mul_le_mul_left _ hb
    unfold maxLen
    omega
  have hn4 : (i0.bytes : Int) * n ≤ 281474976710656 := by
    rw [Int.mul_comm]
    have := hn.2
    omega
  have hrun := run_make (P := cx.P) w t e i0 z ht hi hz .i64 .i64 n n hn.1 (Int.le_refl _) hn4 (by unfold maxLen at hn3; omega)
  have hll : (List.replicate n.toNat zs).length = n.toNat := by simp
  refine done_arr_new (is := []) (rows := List.replicate n.toNat zs) (us := fun _ j => z.cells[j]?.getD undef) (fs := fun _ _ _ => False) (cur := madeCells z.cells (n.toNat * i0.size)) (e := e) m hk ⟨?_, ?_, ?_⟩ ?_ ?_ ?_ ?_ ?_ (Pushed.alloc w _) ?_ (Option.some.inj h).symm
  · intro row hr
    rw [List.eq_of_mem_replicate hr]; omega
  · intro i j c hc
    obtain ⟨u, _, hu, hz0⟩ := zero_row hzr hzs hc
    rw [← hu]
    exact zeroB_cl hz0 _ _
  · exact fun _ _ _ _ _ _ _ _ _ hf => hf.elim
  · intro i j c hc
    obtain ⟨u, hu1, hu, _⟩ := zero_row hzr hzs hc
    rw [hu1, hu]
  · rw [hll, size_madeCells]; exact Nat.le_refl _
  · rw [hll]; exact hn3
  · simp
  · rintro x ⟨_, _, _, _, hf⟩; exact hf.elim
  · rw [hll]
    simp [execOp, ho, e1, hx.trans e1, hrun]

/-! ### Literals of slices -/
inductive RowParts (cx : Cx) (s : St) (g : Gh) (a : Act) (w : World) : List (Nat × Value) → List (Nat × Opd) → Prop
  | nil : RowParts cx s g a w [] []
  | cons (i : Nat) (v : Value) (y : Opd) (ps : List (Nat × Value)) (qs : List (Nat × Opd)) (hv : SRel cx.num w cx.R g s.heap s.ep v (y.ev s.slots)) (h : RowParts cx s g a w ps qs) : RowParts cx s g a w ((i, v) :: ps) ((i, y) :: qs)

/-- Rows on the way: each cell by itself, or of an array that has moved in. -/
structure Filling (h : Nat → Option AO) (g : Gh) (w : World) (sz : Nat) (rows : List (List AV)) (cur : Array Value) (src : Nat → Nat → Option Nat) (gone : List Nat) : Prop where
  size : cur.size = rows.length * sz
  row : ∀ row ∈ rows, row.length = sz
  cell : ∀ i j c, cellAt rows i j = some c → ∃ u, cur[i * sz + j]? = some u ∧ CellIn h g w u c (src i j)
  mem : ∀ i j c id, cellAt rows i j = some c → src i j = some id → id ∈ gone
  inj : ∀ i j c i' j' c' id, cellAt rows i j = some c → cellAt rows i' j' = some c' → src i j = some id → src i' j' = some id → i = i' ∧ j = j'

theorem fillRows_rel {ps : List (Nat × Value)} {qs : List (Nat × Opd)} {sz : Nat} (hp : RowParts cx s g a w ps qs) : ∀ {rows rows' : List (List AV)} {cur : Array Value} {src : Nat → Nat → Option Nat} {gone is : List Nat},
    Filling s.heap g w sz rows cur src gone → fillRows s.heap s.slots sz rows qs = some (rows', is) → (gone ++ is).Nodup →
    ∃ cur' src', Instr.fill (fun i => some (i * sz, sz)) cur ps = some cur' ∧ Filling s.heap g w sz rows' cur' src' (gone ++ is) ∧ rows'.length = rows.length := by
  induction hp with
  | nil =>
    intro rows rows' cur src gone is f h hn
    simp only [fillRows, Option.some.injEq, Prod.mk.injEq] at h
    obtain ⟨rfl, rfl⟩ := h
    exact ⟨cur, src, rfl, by simpa using f, rfl⟩
  | cons i v y ps qs hv _ ih =>
    intro rows rows' cur src gone is f h hn
    simp only [fillRows] at h
    cases hq : (y.ev s.slots).parts with
    | none => rw [hq] at h; cases h
    | some vs =>
      rw [hq] at h
      simp only at h
      cases ha : absorb s.heap vs with
      | none => rw [ha] at h; cases h
      | some p =>
        obtain ⟨row, js⟩ := p
        rw [ha] at h
        simp only at h
        split at h
        case isFalse => cases h
        rename_i hif
        obtain ⟨hrl, hi⟩ := hif
        cases hr : fillRows s.heap s.slots sz (rows.set i row) qs with
        | none => rw [hr] at h; cases h
        | some q =>
          obtain ⟨rs, ks⟩ := q
          rw [hr] at h
          simp only [Option.some.injEq, Prod.mk.injEq] at h
          obtain ⟨rfl, rfl⟩ := h
          have hc := parts_rel hv hq
          have hcs := hc.1
          obtain ⟨hal, hav, hacc⟩ := absorb_rel (num := cx.num) (w := w) (R := cx.R) (g := g) (ep := s.ep) ha
          have hfit : i * sz + sz ≤ rows.length * sz := by
            have : (i + 1) * sz ≤ rows.length * sz := Nat.mul_le_mul_right _ hi
            rw [Nat.add_mul] at this; omega
          rw [← List.append_assoc] at hn
          have hn1 : (gone ++ js).Nodup := (List.nodup_append.1 hn).1
          have hnj : (vs.flatMap refId).Nodup := by rw [← hav]; exact (List.nodup_append.1 hn1).2.1
          have hdj : ∀ x ∈ gone, x ∉ js := fun x hx hxj => (List.nodup_append.1 hn1).2.2 x hx x hxj rfl
          have f' : Filling s.heap g w sz (rows.set i row) (v.cells.zipIdx.foldl (fun cs (c, j) => cs.setIfInBounds (i * sz + j) c) cur) (fun i' j => if i' = i then srcAt vs j else src i' j) (gone ++ js) := by
            have hsm : ∀ j id, srcAt vs j = some id → id ∈ js := fun j id hs => by rw [hav]; exact srcAt_mem hs
            refine ⟨by rw [fold_set_size, List.length_set]; exact f.size, ?_, ?_, ?_, ?_⟩
            · intro r hr
              rcases List.mem_or_eq_of_mem_set hr with h1 | h1
              · exact f.row r h1
              · rw [h1]; exact hrl
            · intro i' j c hcc
              rw [cellAt_set hi] at hcc
              rw [fold_set]
              by_cases h1 : i' = i
              · subst h1
                rw [if_pos rfl] at hcc
                have hj := (List.getElem?_eq_some_iff.1 hcc).1
                rw [if_pos ⟨by omega, by omega, by rw [f.size]; omega⟩, show i' * sz + j - i' * sz = j by omega]
                have hu : v.cells[j]? = some (v.cells[j]'(by omega)) := Array.getElem?_eq_getElem (by omega)
                have hx : vs[j]? = some (vs[j]'(by omega)) := List.getElem?_eq_getElem (by omega)
                refine ⟨_, hu, ?_⟩
                simp only [if_true]
                rw [srcAt_get hx]
                exact hacc j _ _ c hx hcc (hc.2 j _ _ hu hx).2
              · rw [if_neg h1] at hcc
                have hj := cellAt_col f.row hcc
                have : ¬ (i * sz ≤ i' * sz + j ∧ i' * sz + j < i * sz + v.cells.size ∧ i' * sz + j < cur.size) := by
                  rintro ⟨h2, h3, _⟩
                  rcases Nat.lt_trichotomy i' i with hlt | heq | hgt
                  · have : (i' + 1) * sz ≤ i * sz := Nat.mul_le_mul_right _ hlt
                    rw [Nat.add_mul] at this; omega
                  · exact h1 heq
                  · have : (i + 1) * sz ≤ i' * sz := Nat.mul_le_mul_right _ hgt
                    rw [Nat.add_mul] at this; omega
                rw [if_neg this]
                simp only [h1, if_false]
                exact f.cell i' j c hcc
            · intro i' j c id hcc hs
              rw [cellAt_set hi] at hcc
              by_cases h1 : i' = i
              · simp only [h1, if_true] at hs
                exact List.mem_append.2 (.inr (hsm j id hs))
              · rw [if_neg h1] at hcc
                simp only [h1, if_false] at hs
                exact List.mem_append.2 (.inl (f.mem i' j c id hcc hs))
            · intro i1 j1 c1 i2 j2 c2 id hc1 hc2 hs1 hs2
              rw [cellAt_set hi] at hc1 hc2
              by_cases h1 : i1 = i <;> by_cases h2 : i2 = i <;> simp only [h1, h2, if_true, if_false] at hc1 hc2 hs1 hs2
              · exact ⟨by omega, srcAt_inj hnj hs1 hs2⟩
              · exact absurd (hsm _ _ hs1) (hdj _ (f.mem _ _ _ _ hc2 hs2))
              · exact absurd (hsm _ _ hs2) (hdj _ (f.mem _ _ _ _ hc1 hs1))
              · exact f.inj _ _ _ _ _ _ _ hc1 hc2 hs1 hs2
          obtain ⟨cur', src', h1, h2, h3⟩ := ih f' hr (by rw [List.append_assoc] at hn ⊢; exact hn)
          refine ⟨cur', src', ?_, by rw [← List.append_assoc]; exact h2, by rw [h3, List.length_set]⟩
          have hbad : ¬ (v.cells.size ≠ sz ∨ i * sz + v.cells.size > cur.size) := by
            rw [f.size]
            omega
          simp only [Instr.fill]
          rw [if_neg (by simpa using hbad)]
          exact h1

theorem done_bslice (m : Mem cx s.heap s.ep g w) (hk : ¬ g.used key) {t e : TypeId} {i0 : TypeInfo} {z : Value} {zs : List AV} {len : Nat} {parts : Array (Nat × Operand)} {qs : List (Nat × Opd)} (ho : o.op = .buildSlice t len parts) (ht : cx.P.underlying t = some (.slice e))
    (hi : cx.P.info? e = some i0) (hz : i0.zero = some z) (hzs : z.cells.size = i0.size) (hzr : zerosB z.cells.toList zs = true) (hlen : len * i0.size ≤ 16777216) (hl1 : len ≤ 16777216) (hp : RowParts cx s g a w (parts.toList.map fun p => (p.1, a.eval p.2)) qs)
    (h : sem cl (.bslice i0.size zs len qs) key s.slots s.heap s.ep = some out) : Done cx s g a w o key out := by
  simp only [sem] at h
  cases hf : fillRows s.heap s.slots i0.size (List.replicate len zs) qs with
  | none => rw [hf] at h; cases h
  | some p =>
    obtain ⟨rows, is⟩ := p
    rw [hf] at h
    simp only at h
    split at h
    case isFalse => cases h
    rename_i hd
    obtain ⟨hl0, hg0⟩ := zerosB_get hzr
    rw [Array.length_toList] at hl0
    have f0 : Filling s.heap g w i0.size (List.replicate len zs) (madeCells z.cells (len * i0.size)) (fun _ _ => none) [] := by
      refine ⟨by rw [size_madeCells]; simp, fun row hr => by rw [List.eq_of_mem_replicate hr]; omega, fun i j c hc => ?_, fun _ _ _ _ _ h => (nomatch h), fun _ _ _ _ _ _ _ _ _ h _ => (nomatch h)⟩
      obtain ⟨u, hu1, _, hz0⟩ := zero_row hzr hzs hc
      exact ⟨u, hu1, zeroB_cl hz0 _ _⟩
    obtain ⟨cur, src, hfill, ff, hll⟩ := fillRows_rel hp f0 hf (by simpa using distinct_nodup hd)
    rw [List.length_replicate] at hll
    simp only [List.nil_append] at ff
    -- who moved in
    have halive : ∀ i j c id, cellAt rows i j = some c → src i j = some id → id ∈ is ∧ ∃ sz0 xs0, s.heap id = some (.arr sz0 xs0) := by
      intro i j c id hc hs
      obtain ⟨u, _, hin⟩ := ff.cell i j c hc
      rw [hs] at hin
      exact ⟨ff.mem i j c id hc hs, hin.alive⟩
    have hisall : ∀ (qs : List (Nat × Opd)) (r0 r1 : List (List AV)) (is : List Nat), fillRows s.heap s.slots i0.size r0 qs = some (r1, is) → ∀ i ∈ is, ∃ sz0 xs0, s.heap i = some (.arr sz0 xs0) := by
      intro qs
      induction qs with
      | nil => intro r0 r1 is h i hi; simp only [fillRows, Option.some.injEq, Prod.mk.injEq] at h; rw [← h.2] at hi; simp at hi
      | cons q qs ih =>
        intro r0 r1 is h i hi
        obtain ⟨qi, qx⟩ := q
        simp only [fillRows] at h
        cases hq : (qx.ev s.slots).parts with
        | none => rw [hq] at h; cases h
        | some vs =>
          rw [hq] at h
          simp only at h
          cases ha : absorb s.heap vs with
          | none => rw [ha] at h; cases h
          | some p =>
            obtain ⟨row, js⟩ := p
            rw [ha] at h
            simp only at h
            split at h
            case isFalse => cases h
            cases hr : fillRows s.heap s.slots i0.size (r0.set qi row) qs with
            | none => rw [hr] at h; cases h
            | some p =>
              obtain ⟨rs, ks⟩ := p
              rw [hr] at h
              simp only [Option.some.injEq, Prod.mk.injEq] at h
              rw [← h.2] at hi
              rcases List.mem_append.1 hi with h1 | h1
              · exact absorb_alive ha i h1
              · exact ih _ _ _ hr i h1
    have his := hisall _ _ _ _ hf
    refine done_arr_new (is := is) (rows := rows) (us := fun i j => cur[i * i0.size + j]?.getD undef) (fs := fun i j => srcFp g (src i j)) (cur := cur) (e := e) m hk ⟨ff.row, ?_, ?_⟩ ?_ ?_ ?_ his ?_ (Pushed.alloc w _) ?_ (Option.some.inj h).symm
    · intro i j c hc
      obtain ⟨u, hu, hin⟩ := ff.cell i j c hc
      simp only [hu, Option.getD_some]
      exact hin.closed m
    · intro i j c i' j' c' x hc hc' hf1 hf2
      cases hs : src i j with
      | none => rw [hs] at hf1; exact hf1.elim
      | some id => cases hs' : src i' j' with
        | none => rw [hs'] at hf2; exact hf2.elim
        | some id' =>
          rw [hs] at hf1
          rw [hs'] at hf2
          obtain ⟨_, _, _, h1⟩ := halive i j c id hc hs
          obtain ⟨_, _, _, h2⟩ := halive i' j' c' id' hc' hs'
          have := m.disj id id' _ _ x h1 h2 hf1 hf2
          subst this
          exact ff.inj _ _ _ _ _ _ _ hc hc' hs hs'
    · intro i j c hc
      obtain ⟨u, hu, hin⟩ := ff.cell i j c hc
      rw [hu]; rfl
    · rw [ff.size]; exact Nat.le_refl _
    · rw [hll]; unfold maxLen; omega
    · rintro x ⟨i, j, c, hc, hf1⟩
      cases hs : src i j with
      | none => simp only [hs] at hf1; exact hf1.elim
      | some id =>
        simp only [hs] at hf1
        obtain ⟨h1, sz0, xs0, h2⟩ := halive i j c id hc hs
        exact ⟨id, sz0, xs0, h1, h2, hf1⟩
    · rw [hll]
      have hn24 : ¬ (2 ^ 24 < len * i0.size) := by omega
      by_cases h0 : len * i0.size = 0
      · have hmade : (#[] : Array Value) = madeCells z.cells (len * i0.size) := by rw [h0]; simp [madeCells]
        have hfill' : Instr.fill (fun i => some (i * i0.size, i0.size)) #[] (List.map (fun p => (p.fst, a.eval p.snd)) parts.toList) = some cur := by rw [hmade]; exact hfill
        simp [execOp, ho, Instr.buildSlice, run_underlying ht, run_sizeOf hi, h0, Array.range_zero', hfill', newRow]
      · have hmade : (Array.range (len * i0.size)).map (z.cells[· % z.cells.size]!) = madeCells z.cells (len * i0.size) := rfl
        simp [execOp, ho, Instr.buildSlice, run_underlying ht, run_sizeOf hi, h0, hn24, zeroValue, typeInfo, hi, hz, hmade, hfill, newRow]
end
end Go.Proofs.Ytfebkfeobdffjaa
