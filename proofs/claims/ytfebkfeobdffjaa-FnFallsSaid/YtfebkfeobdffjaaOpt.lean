/- Each operation of the model does what the abstract machine's does: struct values, their equality. -/
import Derived.Test.YtfebkfeobdffjaaOps
import Derived.Laws.StructEq
namespace Go.Proofs.Ytfebkfeobdffjaa
open Go Go.RowKit
set_option linter.unusedSimpArgs false

section
variable {num : Nat → Option FuncId} {w : World} {R : Nat → Prop} {g : Gh} {h : Nat → Option AO} {ep : Nat}

/-- Cell by cell. -/
def CellsRel (num : Nat → Option FuncId) (w : World) (R : Nat → Prop) (g : Gh) (h : Nat → Option AO) (ep : Nat) (us : Array Value) (cs : List AV) : Prop :=
  us.size = cs.length ∧ ∀ (i : Nat) (u : Value) (c : AV), us[i]? = some u → cs[i]? = some c → u.oneCell' = true ∧ SRel num w R g h ep u c

theorem parts_rel {v : Value} {x : AV} {vs : List AV} (hr : SRel num w R g h ep v x) (hp : x.parts = some vs) : CellsRel num w R g h ep v.cells vs := by
  have one : x.parts = some [x] → (∀ us, v ≠ .agg us) → CellsRel num w R g h ep v.cells vs := by
    intro hp' hna
    rw [hp'] at hp
    obtain rfl := Option.some.inj hp
    have hc : v.cells = #[v] := by cases v <;> first | rfl | exact absurd rfl (hna _)
    rw [hc]
    refine ⟨rfl, fun i u c hu hc => ?_⟩
    cases i with
    | zero =>
      simp at hu hc
      subst hu; subst hc
      exact ⟨hr.one hp', hr⟩
    | succ i => simp at hc
  cases hr with
  | any => simp [AV.parts] at hp
  | tup => simp [AV.parts] at hp
  | agg us cs hl h1 hc =>
    simp only [AV.parts, Option.some.injEq] at hp
    subst hp
    exact ⟨hl, fun i u c hu hi => ⟨h1 i u hu, hc i u c hu hi⟩⟩
  | bool => exact one rfl (by simp)
  | int => exact one rfl (by simp)
  | str => exact one rfl (by simp)
  | nil => exact one rfl (by simp)
  | sl _ _ _ _ h1 => exact one rfl (by rintro us rfl; simp [Value.oneCell'] at h1)
  | ref _ _ h1 => exact one rfl (by rintro us rfl; simp [Value.oneCell'] at h1)
  | view _ _ _ _ h1 => exact one rfl (by rintro us rfl; simp [Value.oneCell'] at h1)
  | ptr _ _ _ _ h1 => exact one rfl (by rintro us rfl; simp [Value.oneCell'] at h1)
  | bptr _ _ _ _ h1 => exact one rfl (by rintro us rfl; simp [Value.oneCell'] at h1)
  | mapr _ _ h1 => exact one rfl (by rintro us rfl; simp [Value.oneCell'] at h1)
  | inn _ _ _ _ _ h1 => exact one rfl (by rintro us rfl; simp [Value.oneCell'] at h1)
  | fn => exact one rfl (by simp)

theorem CellsRel.agg {us : Array Value} {cs : List AV} (hc : CellsRel num w R g h ep us cs) : SRel num w R g h ep (.agg us) (.agg cs) := by
  refine .agg us cs hc.1 (fun i v hv => ?_) (fun i v c hv hi => (hc.2 i v c hv hi).2)
  have hlt := (Array.getElem?_eq_some_iff.1 hv).1
  exact (hc.2 i v _ hv (List.getElem?_eq_getElem (by rw [← hc.1]; exact hlt))).1

theorem fold_set (vs : Array Value) (off : Nat) (us : Array Value) : ∀ i : Nat, (vs.zipIdx.foldl (fun cs (c, j) => cs.setIfInBounds (off + j) c) us)[i]? = if off ≤ i ∧ i < off + vs.size ∧ i < us.size then vs[i - off]? else us[i]? := by
  have key : ∀ (l : List Value) (k : Nat) (us : Array Value) (i : Nat), ((l.zipIdx k).foldl (fun cs (p : Value × Nat) => cs.setIfInBounds (off + p.2) p.1) us)[i]? = if off + k ≤ i ∧ i < off + k + l.length ∧ i < us.size then l[i - (off + k)]? else us[i]? := by
    intro l
    induction l with
    | nil => intro k us i; simp; omega
    | cons v l ih =>
      intro k us i
      simp only [List.zipIdx_cons, List.foldl_cons]
      rw [ih]
      simp only [Array.size_setIfInBounds, List.length_cons, Array.getElem?_setIfInBounds]
      by_cases h1 : i = off + k
      · subst h1
        by_cases h2 : off + k < us.size
        · simp [h2]
          intro h3 _
          omega
        · simp [h2]
      · by_cases h2 : off + (k + 1) ≤ i ∧ i < off + (k + 1) + l.length ∧ i < us.size
        · rw [if_pos h2, if_pos ⟨by omega, by omega, h2.2.2⟩]
          rw [show i - (off + k) = (i - (off + (k + 1))) + 1 by omega]
          simp
        · rw [if_neg h2, if_neg (by omega), if_neg (by omega)]
  intro i
  rw [← Array.foldl_toList]
  have := key vs.toList 0 us i
  simpa using this

theorem fold_set_size (vs : Array Value) (off : Nat) (us : Array Value) : (vs.zipIdx.foldl (fun cs (c, j) => cs.setIfInBounds (off + j) c) us).size = us.size := by
  have key : ∀ (l : List (Value × Nat)) (us : Array Value), (l.foldl (fun cs (p : Value × Nat) => cs.setIfInBounds (off + p.2) p.1) us).size = us.size := by
    intro l
    induction l with
    | nil => intro us; rfl
    | cons v l ih => intro us; simp only [List.foldl_cons]; rw [ih]; simp
  rw [← Array.foldl_toList]
  exact key _ _

theorem lay_get (cs vs : List AV) (off i : Nat) (hle : off + vs.length ≤ cs.length) : (lay cs off vs)[i]? = if off ≤ i ∧ i < off + vs.length then vs[i - off]? else cs[i]? := by
  unfold lay
  rw [List.getElem?_append]
  have hl : (List.take off cs).length = off := by simp; omega
  rw [hl]
  by_cases h1 : i < off
  · rw [if_pos h1, if_neg (by omega), List.getElem?_take, if_pos h1]
  · rw [if_neg h1, List.getElem?_append]
    by_cases h2 : i - off < vs.length
    · rw [if_pos h2, if_pos (by omega)]
    · rw [if_neg h2, if_neg (by omega), List.getElem?_drop]
      congr 1
      omega

theorem lay_length (cs vs : List AV) (off : Nat) (hle : off + vs.length ≤ cs.length) : (lay cs off vs).length = cs.length := by
  unfold lay
  simp
  omega

theorem CellsRel.lay {us vs : Array Value} {cs ds : List AV} {off : Nat} (h1 : CellsRel num w R g h ep us cs) (h2 : CellsRel num w R g h ep vs ds) (hle : off + ds.length ≤ cs.length) :
    CellsRel num w R g h ep (vs.zipIdx.foldl (fun cs (c, j) => cs.setIfInBounds (off + j) c) us) (lay cs off ds) := by
  refine ⟨by rw [fold_set_size, lay_length _ _ _ hle, h1.1], fun i u c hu hc => ?_⟩
  rw [fold_set] at hu
  rw [lay_get _ _ _ _ hle] at hc
  have hs1 := h1.1
  have hs2 := h2.1
  by_cases hin : off ≤ i ∧ i < off + ds.length
  · rw [if_pos (by omega)] at hu
    rw [if_pos hin] at hc
    exact h2.2 _ _ _ hu hc
  · rw [if_neg (by omega)] at hu
    rw [if_neg hin] at hc
    exact h1.2 _ _ _ hu hc
end

section
variable {cx : Cx} {s : St} {g : Gh} {a : Act} {w : World} {o : Oper} {key : Nat} {out : Out} {cl : Callee}

/-- The parts of a literal, side by side: place, width, value. -/
inductive PartsRel (cx : Cx) (s : St) (g : Gh) (a : Act) (w : World) (place : Nat → Option (Nat × Nat)) : List (Nat × Value) → List (Nat × Nat × Opd) → Prop
  | nil : PartsRel cx s g a w place [] []
  | cons (i off n : Nat) (v : Value) (y : Opd) (ps : List (Nat × Value)) (qs : List (Nat × Nat × Opd)) (hp : place i = some (off, n)) (hv : SRel cx.num w cx.R g s.heap s.ep v (y.ev s.slots)) (h : PartsRel cx s g a w place ps qs) :
      PartsRel cx s g a w place ((i, v) :: ps) ((off, n, y) :: qs)

theorem fill_rel {place : Nat → Option (Nat × Nat)} {ps : List (Nat × Value)} {qs : List (Nat × Nat × Opd)} (hp : PartsRel cx s g a w place ps qs) : ∀ {us : Array Value} {cs ds : List AV}, CellsRel cx.num w cx.R g s.heap s.ep us cs →
    fillParts s.slots cs qs = some ds → ∃ vs, Instr.fill place us ps = some vs ∧ CellsRel cx.num w cx.R g s.heap s.ep vs ds := by
  induction hp with
  | nil => intro us cs ds hc h; simp only [fillParts, Option.some.injEq] at h; subst h; exact ⟨us, rfl, hc⟩
  | cons i off n v y ps qs hp hv _ ih =>
    intro us cs ds hc h
    simp only [fillParts] at h
    cases hq : (y.ev s.slots).parts with
    | none => rw [hq] at h; cases h
    | some vs =>
      rw [hq] at h
      simp only at h
      split at h
      case isFalse => cases h
      rename_i hle
      obtain ⟨hn, hle⟩ := hle
      have hvr := parts_rel hv hq
      have hsz1 := hvr.1
      have hsz2 := hc.1
      obtain ⟨rs, h1, h2⟩ := ih (hc.lay hvr (off := off) (by omega)) h
      refine ⟨rs, ?_, h2⟩
      simp only [Instr.fill, hp]
      rw [if_neg (by simp; omega)]
      exact h1

theorem run_mapM_places {P : Program} {w : World} (l : List Field) (hl : ∀ f ∈ l, ∃ i0, P.info? f.type = some i0) :
    (l.mapM fun f => do pure (f.offset, ← sizeOf f.type) : Sem (List (Nat × Nat))).run P w = .ok (l.map fun f => (f.offset, ((P.info? f.type).map (·.size)).getD 0)) w := by
  induction l with
  | nil => rfl
  | cons f l ih =>
    obtain ⟨i0, hi⟩ := hl f (List.mem_cons_self ..)
    have ih' := ih fun f hf => hl f (List.mem_cons_of_mem _ hf)
    simp only [List.mapM_cons, Sem.run_bind, run_sizeOf hi, Result.andThen_ok, Sem.run_pure, ih', List.map_cons, hi, Option.map_some, Option.getD_some]

theorem done_build (m : Mem cx s.heap s.ep g w) {ps : Array (Nat × Operand)} {t : TypeId} {fs : Array Field} {i0 : TypeInfo} {z : Value} {zs : List AV} {qs : List (Nat × Nat × Opd)} (ho : o.op = .build t ps) (ht : cx.P.underlying t = some (.struct fs))
    (hi : cx.P.info? t = some i0) (hz : i0.zero = some z) (hzr : CellsRel cx.num w cx.R g s.heap s.ep z.cells zs) (hfs : ∀ f ∈ fs.toList, ∃ i1, cx.P.info? f.type = some i1)
    (hps : PartsRel cx s g a w (fun i => (fs[i]?).map fun f => (f.offset, ((cx.P.info? f.type).map (·.size)).getD 0)) (ps.toList.map fun p => (p.1, a.eval p.2)) qs)
    (h : sem cl (.build zs qs) key s.slots s.heap s.ep = some out) : Done cx s g a w o key out := by
  simp only [sem] at h
  cases hf : fillParts s.slots zs qs with
  | none => rw [hf] at h; cases h
  | some cs =>
    rw [hf] at h
    obtain ⟨vs, h1, h2⟩ := fill_rel hps hzr hf
    refine done_val m (v := .agg vs) ?_ h2.agg h
    have hm := run_mapM_places (P := cx.P) (w := w) fs.toList hfs
    have hm' : (fs.mapM fun f => do pure (f.offset, ← sizeOf f.type) : Sem (Array (Nat × Nat))).run cx.P w = .ok (fs.map fun f => (f.offset, ((cx.P.info? f.type).map (·.size)).getD 0)) w := by
      rw [Array.mapM_eq_mapM_toList, Sem.run_map, hm]
      simp only [Result.andThen_ok]
      congr 1
      apply Array.ext'
      simp
    have hpl : (fun i : Nat => (fs.map fun f => (f.offset, ((cx.P.info? f.type).map (fun j => j.size)).getD 0))[i]?) = fun i : Nat => (fs[i]?).map fun f => (f.offset, ((cx.P.info? f.type).map (fun j => j.size)).getD 0) := by
      funext i
      simp
    simp only [execOp, ho, Instr.build, Sem.run_bind, zeroValue, typeInfo, run_program, Result.andThen_ok, hi, hz, Sem.run_pure, run_underlying ht, hm']
    simp only [hpl, Array.toList_map, h1]
    rfl

/-! ### Equality of structs of plain fields -/
def szT (P : Program) (t : TypeId) : Nat := ((P.info? t).map (·.size)).getD 0

def shapeFs (F : TypeId → Option (List CK)) (P : Program) : Nat → List Field → Option (List CK)
  | _, [] => some []
  | off, f :: fs => if f.name != "_" && f.offset == off && (P.info? f.type).isSome then match F f.type with
      | some a => if a.length = szT P f.type ∧ a.length ≠ 0 then match shapeFs F P (off + a.length) fs with
        | some b => some (a ++ b)
        | none => none
        else none
      | none => none
    else none

def shapeTy (P : Program) : Nat → TypeId → Option (List CK)
  | 0, _ => none
  | d + 1, t => match P.underlying t with
    | some (.int _) => some [.i]
    | some .string => some [.s]
    | some .bool => some [.b]
    | some (.struct fs) => if P.stoodInHeld t then none else shapeFs (shapeTy P d) P 0 fs.toList
    | _ => none

/-- A value of a plain type, cell by cell. -/
def ValRel (num : Nat → Option FuncId) (w : World) (R : Nat → Prop) (g : Gh) (h : Nat → Option AO) (ep : Nat) (agg : Bool) (v : Value) (cs : List AV) : Prop :=
  if agg then ∃ us, v = .agg us ∧ CellsRel num w R g h ep us cs else ∃ c, cs = [c] ∧ SRel num w R g h ep v c

theorem eqCells_length : ∀ {ks : List CK} {cs ds : List AV} {r : Bool}, eqCells ks cs ds = some r → ks.length = cs.length ∧ ks.length = ds.length
  | [], [], [], _, _ => ⟨rfl, rfl⟩
  | k :: ks, c :: cs, d :: ds, r, h => by
    simp only [eqCells] at h
    cases hc : eqCell k c d with
    | none => rw [hc] at h; cases h
    | some b =>
      rw [hc] at h
      cases b with
      | true => have := eqCells_length h; simp [this.1, this.2]; omega
      | false =>
        simp only at h
        split at h
        · rename_i hl; simp only [List.length_cons]; omega
        · cases h
  | [], [], _ :: _, _, h => by cases h
  | [], _ :: _, _, _, h => by cases h
  | _ :: _, [], _, _, h => by cases h
  | _ :: _, _ :: _, [], _, h => by cases h

/-- The equality of a whole, piece by piece. -/
theorem eqCells_append : ∀ {ks ls : List CK} {cs ds : List AV} {r : Bool}, eqCells (ks ++ ls) cs ds = some r →
    (∃ b, eqCells ks (cs.take ks.length) (ds.take ks.length) = some b ∧ (if b then eqCells ls (cs.drop ks.length) (ds.drop ks.length) = some r else r = false))
  | [], ls, cs, ds, r, h => ⟨true, by simp [eqCells], by simpa using h⟩
  | k :: ks, ls, cs, ds, r, h => by
    cases cs with
    | nil => simp [eqCells] at h
    | cons c cs => cases ds with
      | nil => simp [eqCells] at h
      | cons d ds =>
        simp only [List.cons_append, eqCells, List.length_cons, List.take_succ_cons, List.drop_succ_cons] at h ⊢
        cases hc : eqCell k c d with
        | none => rw [hc] at h; cases h
        | some b =>
          rw [hc] at h
          cases b with
          | true => exact eqCells_append h
          | false =>
            simp only at h ⊢
            split at h
            · rename_i hl
              simp only [List.length_append] at hl
              refine ⟨false, ?_, by simpa using h.symm⟩
              rw [if_pos]
              simp
              omega
            · cases h

theorem run_part {P : Program} {w : World} {t : TypeId} {d : TypeDesc} {i0 : TypeInfo} (ht : P.underlying t = some d) (hi : P.info? t = some i0) (us : Array Value) (off : Nat) (u : Value) (hu : aggB d = false → us[off]? = some u) :
    (part t us off).run P w = .ok (if aggB d then .agg (us.extract off (off + i0.size)) else u) w := by
  cases hd : aggB d with
  | true => simp [part, run_isAgg ht, hd, run_sizeOf hi]
  | false => simp [part, run_isAgg ht, hd, hu hd]

theorem CellsRel.cut {num : Nat → Option FuncId} {w : World} {R : Nat → Prop} {g : Gh} {h : Nat → Option AO} {ep : Nat} {us : Array Value} {cs : List AV} (hc : CellsRel num w R g h ep us cs) (off n : Nat) (hle : off + n ≤ cs.length) :
    CellsRel num w R g h ep (us.extract off (off + n)) ((cs.drop off).take n) := by
  have hs := hc.1
  refine ⟨by simp; omega, fun i u c hu hi => ?_⟩
  rw [List.getElem?_take] at hi
  split at hi
  case isFalse => cases hi
  rename_i hlt
  rw [List.getElem?_drop] at hi
  rw [Array.getElem?_extract] at hu
  split at hu
  · exact hc.2 _ _ _ hu hi
  · cases hu

section
variable {P : Program} {num : Nat → Option FuncId} {w : World} {R : Nat → Prop} {g : Gh} {h : Nat → Option AO} {ep : Nat}

theorem aggB_of_shape {d : Nat} {t : TypeId} {ks : List CK} (hs : shapeTy P d t = some ks) : ∃ td, P.underlying t = some td ∧ (aggB td = false → ks.length = 1) := by
  cases d with
  | zero => cases hs
  | succ d =>
    simp only [shapeTy] at hs
    cases ht : P.underlying t with
    | none => rw [ht] at hs; cases hs
    | some td =>
      rw [ht] at hs
      refine ⟨td, rfl, fun hf => ?_⟩
      cases td <;> simp only [reduceCtorEq, Option.some.injEq] at hs <;> first | (subst hs; rfl) | simp [aggB] at hf

theorem eqFields_run (d : Nat) (F : TypeId → Option (List CK)) (hF : ∀ t ks, F t = some ks → (∃ td, P.underlying t = some td ∧ (aggB td = false → ks.length = 1)) ∧ ∀ td, P.underlying t = some td → ∀ (u v : Value) (cs ds : List AV) (b : Bool),
      ValRel num w R g h ep (aggB td) u cs → ValRel num w R g h ep (aggB td) v ds → eqCells ks cs ds = some b → (Op.equalIn d t u v).run P w = .ok b w)
    (xs ys : Array Value) (cs ds : List AV) (hx : CellsRel num w R g h ep xs cs) (hy : CellsRel num w R g h ep ys ds) :
    ∀ (fs : List Field) (off : Nat) (ks : List CK) (b : Bool), shapeFs F P off fs = some ks → eqCells ks (cs.drop off) (ds.drop off) = some b → (Op.eqFields d xs ys fs).run P w = .ok b w
  | [], off, ks, b, hs, he => by
    simp only [shapeFs, Option.some.injEq] at hs
    subst hs
    cases hc : cs.drop off <;> cases hd : ds.drop off <;> rw [hc, hd] at he <;> simp [eqCells] at he
    subst he
    simp [Op.eqFields]
  | f :: fs, off, ks, b, hs, he => by
    simp only [shapeFs] at hs
    split at hs
    case isFalse => cases hs
    rename_i hcond
    simp only [Bool.and_eq_true, bne_iff_ne, ne_eq, beq_iff_eq] at hcond
    obtain ⟨⟨hname, hoff⟩, hinfo⟩ := hcond
    obtain ⟨i0, hi⟩ := Option.isSome_iff_exists.1 hinfo
    cases hfk : F f.type with
    | none => rw [hfk] at hs; cases hs
    | some ka =>
      rw [hfk] at hs
      simp only at hs
      split at hs
      case isFalse => cases hs
      rename_i hka
      obtain ⟨hka, hne⟩ := hka
      have hi0 : i0.size = ka.length := by rw [hka]; simp [szT, hi]
      cases hrest : shapeFs F P (off + ka.length) fs with
      | none => rw [hrest] at hs; cases hs
      | some kb =>
        rw [hrest] at hs
        simp only [Option.some.injEq] at hs
        subst hs
        obtain ⟨⟨td, htd, hone⟩, hrun⟩ := hF f.type ka hfk
        have hlen := eqCells_length he
        simp only [List.length_append, List.length_drop] at hlen
        obtain ⟨b0, hb0, hbr⟩ := eqCells_append he
        have hpx : ∀ u, (aggB td = false → xs[off]? = some u) → (part f.type xs f.offset).run P w = .ok (if aggB td then .agg (xs.extract off (off + i0.size)) else u) w := fun u hu => by rw [hoff]; exact run_part htd hi xs off u hu
        have hpy : ∀ u, (aggB td = false → ys[off]? = some u) → (part f.type ys f.offset).run P w = .ok (if aggB td then .agg (ys.extract off (off + i0.size)) else u) w := fun u hu => by rw [hoff]; exact run_part htd hi ys off u hu
        have hsx := hx.1
        have hsy := hy.1
        have hpiece : ∃ u v, (part f.type xs f.offset).run P w = .ok u w ∧ (part f.type ys f.offset).run P w = .ok v w ∧ ValRel num w R g h ep (aggB td) u ((cs.drop off).take ka.length) ∧ ValRel num w R g h ep (aggB td) v ((ds.drop off).take ka.length) := by
          cases hag : aggB td with
          | true =>
            have h1 := hpx undef (fun hf => by rw [hag] at hf; cases hf)
            have h2 := hpy undef (fun hf => by rw [hag] at hf; cases hf)
            rw [hag] at h1 h2
            rw [hi0] at h1 h2
            exact ⟨_, _, h1, h2, ⟨_, rfl, hx.cut off ka.length (by omega)⟩, ⟨_, rfl, hy.cut off ka.length (by omega)⟩⟩
          | false =>
            have hl1 := hone hag
            have hxo : xs[off]? = some (xs[off]'(by omega)) := Array.getElem?_eq_getElem (by omega)
            have hyo : ys[off]? = some (ys[off]'(by omega)) := Array.getElem?_eq_getElem (by omega)
            have h1 := hpx _ (fun _ => hxo)
            have h2 := hpy _ (fun _ => hyo)
            rw [hag] at h1 h2
            have hco : cs[off]? = some (cs[off]'(by omega)) := List.getElem?_eq_getElem (by omega)
            have hdo : ds[off]? = some (ds[off]'(by omega)) := List.getElem?_eq_getElem (by omega)
            refine ⟨_, _, h1, h2, ⟨cs[off]'(by omega), ?_, (hx.2 _ _ _ hxo hco).2⟩, ⟨ds[off]'(by omega), ?_, (hy.2 _ _ _ hyo hdo).2⟩⟩
            · rw [hl1, List.drop_eq_getElem_cons (by omega)]; rfl
            · rw [hl1, List.drop_eq_getElem_cons (by omega)]; rfl
        obtain ⟨u, v, hu, hv, hur, hvr⟩ := hpiece
        have heq := hrun td htd u v _ _ b0 hur hvr hb0
        simp only [Op.eqFields, hname, not_false_eq_true, ne_eq, if_true, Sem.run_bind, hu, hv, heq, Result.andThen_ok]
        cases b0 with
        | false => simp only [Bool.false_eq_true, if_false] at hbr; subst hbr; simp
        | true =>
          simp only [if_true, List.drop_drop] at hbr
          simp only [Bool.not_true, Bool.false_eq_true, if_false]
          exact eqFields_run d F hF xs ys cs ds hx hy fs (off + ka.length) kb b hrest hbr

theorem equal_run : ∀ (d k : Nat) (t : TypeId) (ks : List CK), shapeTy P d t = some ks → ∀ td, P.underlying t = some td → ∀ (u v : Value) (cs ds : List AV) (b : Bool),
      ValRel num w R g h ep (aggB td) u cs → ValRel num w R g h ep (aggB td) v ds → eqCells ks cs ds = some b → (Op.equalIn (d + k) t u v).run P w = .ok b w
  | 0, _, _, _, hs => by cases hs
  | d + 1, k, t, ks, hs => by
    intro td htd u v cs ds b hu hv he
    rw [show d + 1 + k = (d + k) + 1 by omega]
    simp only [shapeTy, htd] at hs
    have scalar : ∀ kk : CK, some [kk] = some ks → aggB td = false → ∃ c c', cs = [c] ∧ ds = [c'] ∧ SRel num w R g h ep u c ∧ SRel num w R g h ep v c' ∧ eqCell kk c c' = some b := by
      intro kk hkk hag
      obtain rfl := Option.some.inj hkk
      rw [hag] at hu hv
      obtain ⟨c, rfl, hc⟩ := hu
      obtain ⟨c', rfl, hc'⟩ := hv
      refine ⟨c, c', rfl, rfl, hc, hc', ?_⟩
      simp only [eqCells] at he
      cases hx : eqCell kk c c' with
      | none => rw [hx] at he; cases he
      | some b0 => rw [hx] at he; cases b0 <;> simpa [eqCells] using he
    cases td <;> simp only [reduceCtorEq] at hs
    · obtain ⟨c, c', rfl, rfl, hc, hc', he'⟩ := scalar _ hs rfl
      cases c <;> cases c' <;> simp only [eqCell, reduceCtorEq] at he'
      cases hc; cases hc'
      simp only [Option.some.injEq] at he'
      rw [run_equalIn_bool' w _ t _ _ htd, he']
    · obtain ⟨c, c', rfl, rfl, hc, hc', he'⟩ := scalar _ hs rfl
      cases c <;> cases c' <;> simp only [eqCell, reduceCtorEq] at he'
      cases hc; cases hc'
      split at he'
      · simp only [Option.some.injEq] at he'
        rename_i hkk
        subst hkk
        rw [run_equalIn_int w _ t _ _ _ _ htd, he']
      · cases he'
    · obtain ⟨c, c', rfl, rfl, hc, hc', he'⟩ := scalar _ hs rfl
      cases c <;> cases c' <;> simp only [eqCell, reduceCtorEq] at he'
      cases hc; cases hc'
      simp only [Option.some.injEq, sEq] at he'
      rw [run_equalIn_string w _ t _ _ htd, he']
    · rename_i fs
      split at hs
      · cases hs
      rename_i hst
      obtain ⟨xs, rfl, hx⟩ := hu
      obtain ⟨ys, rfl, hy⟩ := hv
      have hfo : P.fieldsOf t = fs := by simp [Program.fieldsOf, htd]
      rw [run_equalIn_agg w (d + k) t xs ys (by rw [hfo]; exact htd) (by simpa using hst), hfo]
      refine eqFields_run (d + k) (shapeTy P d) ?_ xs ys cs ds hx hy fs.toList 0 ks b hs (by simpa using he)
      intro t' ks' hs'
      exact ⟨aggB_of_shape hs', fun td' htd' u v cs ds b hu hv he => equal_run d k t' ks' hs' td' htd' u v cs ds b hu hv he⟩
end

theorem done_eqs (m : Mem cx s.heap s.ep g w) {x1 x2 : Operand} {t t' : TypeId} {fs : Array Field} {op : BinOp} {neg : Bool} {ks : List CK} {y1 y2 : Opd} (ho : o.op = .binOp op t x1 x2 t') (hop : op = if neg then .neq else .eql)
    (ht : cx.P.underlying t = some (.struct fs)) (hg : cx.P.eqGuardType cx.P.depth t = false) (hs : shapeTy cx.P 10 t = some ks) (h1 : SRel cx.num w cx.R g s.heap s.ep (a.eval x1) (y1.ev s.slots)) (h2 : SRel cx.num w cx.R g s.heap s.ep (a.eval x2) (y2.ev s.slots))
    (h : sem cl (.eqs neg ks y1 y2) key s.slots s.heap s.ep = some out) : Done cx s g a w o key out := by
  simp only [sem] at h
  generalize y1.ev s.slots = c1 at h h1
  generalize y2.ev s.slots = c2 at h h2
  generalize e1 : a.eval x1 = v1 at h1
  generalize e2 : a.eval x2 = v2 at h2
  cases c1 <;> cases c2 <;> simp only [reduceCtorEq] at h
  rename_i cs ds
  cases he : eqCells ks cs ds with
  | none => rw [he] at h; cases h
  | some b =>
    rw [he] at h
    cases h1 with
    | agg xs _ hl1 ho1 hc1 => cases h2 with
      | agg ys _ hl2 ho2 hc2 =>
        have hrun := equal_run (P := cx.P) (num := cx.num) (w := w) (R := cx.R) (g := g) (h := s.heap) (ep := s.ep) 10 9990 t ks hs _ ht (.agg xs) (.agg ys) cs ds b
          ⟨xs, rfl, hl1, fun i u c hu hi => ⟨ho1 i u hu, hc1 i u c hu hi⟩⟩ ⟨ys, rfl, hl2, fun i u c hu hi => ⟨ho2 i u hu, hc2 i u c hu hi⟩⟩ he
        have hrun' : (Op.equalIn 10000 t (.agg xs) (.agg ys)).run cx.P w = .ok b w := hrun
        refine done_val m ?_ (.bool _) h
        subst hop
        cases neg
        · simp [execOp, ho, e1, e2, run_eqGuard_agg w _ t x1 x2 xs ys hg, run_eql_struct, hrun']
        · simp [execOp, ho, e1, e2, run_eqGuard_agg w _ t x1 x2 xs ys hg, run_neq_struct, hrun']
end
end Go.Proofs.Ytfebkfeobdffjaa
