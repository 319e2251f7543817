/- The whole: what the abstract machine says of a call, the program does. · The arguments of a law, read as the abstract machine's values; a whole call from outside. · A law's call from outside: its arguments read, nothing below turned, its answer. · The laws' arguments, read as the program's data. · The laws' own helpers: sizes only go down. · The laws' own helpers: marks on mates. · Layer 6: the book of grants: what it must be. · The laws' own helpers, on books. · The laws' own helpers, on parcels. · The laws' own helpers: marks on books and on lists of parcels. · Layer 3: ticks of runs. · Layer 5: copies of mates; falls and rises. · Layer 6: the book's copy and its tick. · What is valid, said of lists as wholes. · Ordered lists: an element put in its place; what sorting does to a list and one more. · Layer 6: what a berth is to run is put into the book. · FnExactMatePut: the plain law. · The library's functions: that a program's own do as YtgpedkkhndljiaaLib says where their contracts hold. -/
import Derived.Test.YtgpedkkhndljiaaB4
import Derived.Carry
import Derived.ChangeArms
import Derived.DataReads
import Derived.Test.YtgpedkkhndljiaaB2
import Derived.Test.YtgpedkkhndljiaaB1
import Derived.Lib.SplitLaws
namespace Go.Proofs.Ytgpedkkhndljiaa
open Go Go.RowKit
set_option linter.unusedSimpArgs false

section
variable {cx : Cx} {nt : Nat}

def resOf (tmps : Array Value) : ResultVar → Sem Value
  | .tmp t => pure (tmps.getD t undef)
  | .cell a t => do loadVar t (← asAddr (tmps.getD a undef))

theorem res_rel {s : St} {g : Gh} {a : Act} {w : World} (c : Corr cx nt s g a w) : ∀ {rs : List ResultVar} {cs : List CRes} {vs : List AV}, chkRes cx.P rs cs = true → resVals s cs = some vs →
    ∃ us : List Value, (rs.mapM (resOf a.tmps)).run cx.P w = .ok us w ∧ us.length = vs.length ∧ ∀ (i : Nat) (u : Value) (d : AV), us[i]? = some u → vs[i]? = some d → SRel cx.num w cx.R g s.heap s.ep u d
  | [], [], vs, _, h => by
    simp only [resVals, Option.some.injEq] at h
    subst h
    exact ⟨[], rfl, rfl, fun i u d hu => by simp at hu⟩
  | .tmp t :: rs, .tmp t' :: cs, vs, hc, h => by
    simp only [chkRes, Bool.and_eq_true, beq_iff_eq] at hc
    obtain ⟨rfl, hc⟩ := hc
    simp only [resVals, resVal] at h
    cases h1 : resVals s cs with
    | none => rw [h1] at h; cases h
    | some vs' =>
      rw [h1] at h
      simp only [Option.some.injEq] at h
      subst h
      obtain ⟨us, h2, h3, h4⟩ := res_rel c hc h1
      refine ⟨a.tmps.getD t undef :: us, by simp [List.mapM_cons, resOf, h2], by simp [h3], fun i u d hu hd => ?_⟩
      cases i with
      | zero => simp only [List.getElem?_cons_zero, Option.some.injEq] at hu hd; subst hu; subst hd; exact c.slots t
      | succ i => exact h4 i u d (by simpa using hu) (by simpa using hd)
  | .cell t ty :: rs, .cell t' sz agg :: cs, vs, hc, h => by
    simp only [chkRes, Bool.and_eq_true, beq_iff_eq] at hc
    obtain ⟨rfl, hsz, hag, hc⟩ := hc
    obtain ⟨i0, hi, hi2⟩ := sizeB_some hsz
    simp only [decide_eq_true_eq] at hi2
    subst hi2
    split at hag
    case h_2 => cases hag
    rename_i d hd
    simp only [Bool.and_eq_true, beq_iff_eq, Bool.or_eq_true] at hag
    obtain ⟨rfl, h1s⟩ := hag
    simp only [resVals, resVal] at h
    have hr := c.slots t
    generalize s.slots t = c1 at h hr
    generalize hv : a.tmps.getD t undef = v1 at hr
    cases c1 <;> try (cases h; done)
    rename_i id i off
    cases i <;> cases off <;> try (cases h; done)
    simp only at h
    cases hh : s.heap id with
    | none => rw [hh] at h; cases h
    | some ob =>
      rw [hh] at h
      cases ob <;> try (cases h; done)
      rename_i cells
      simp only at h
      split at h
      · cases h
      · rename_i v hlv
        split at hlv
        case isFalse => cases hlv
        rename_i hlen
        cases h1 : resVals s cs with
        | none => rw [h1] at h; cases h
        | some vs' =>
          rw [h1] at h
          simp only [Option.some.injEq] at h
          subst h
          obtain ⟨us, h2, h3, h4⟩ := res_rel c hc h1
          obtain ⟨b, cur, e, h5, h6, h7, h8, h9, h10⟩ := c.mem.objs id _ hh
          cases hr with
          | ptr _ _ _ _ _ hu hv' =>
            obtain ⟨b', h11, h12⟩ := hv' _ hh
            rw [h5] at h11
            simp only [Value.pointer.injEq, Option.some.injEq, Addr.mk.injEq, and_true] at h11
            subst h11
            obtain ⟨hle, hrv⟩ := loadFrom_some (fun hf => h1s.resolve_left (by simp [hf])) hlv
            have hcell : ∀ j, j < i0.size → w.cell? ⟨b, 0 + j, none⟩ = some (cur.getD j undef) := fun j hj => by
              rw [cell_of_heap h6, Nat.zero_add, Array.getD_eq_getD_getElem?, Array.getElem?_eq_getElem (by omega)]; rfl
            have hrun := run_loadVar (w := w) hd hi b 0 (fun j => cur.getD j undef) hcell (fun hf => h1s.resolve_left (by simp [hf]))
            have hcr : ∀ j, j < i0.size → ∃ d0, cells[j]? = some d0 ∧ (cur.getD j undef).oneCell' = true ∧ SRel cx.num w cx.R g s.heap s.ep (cur.getD j undef) d0 := fun j hj => by
              have hcj : cells[j]? = some (cells[j]'(by omega)) := List.getElem?_eq_getElem (by omega)
              have huj : cur[j]? = some (cur.getD j undef) := by rw [Array.getD_eq_getD_getElem?, Array.getElem?_eq_getElem (by omega)]; rfl
              obtain ⟨h13, h14⟩ := h10 j _ _ huj hcj
              exact ⟨_, hcj, h13, h14⟩
            refine ⟨_ :: us, by simp only [List.mapM_cons, resOf, hv, h12, asAddr, Sem.run_bind, Sem.run_pure, Result.andThen_ok, hrun, h2]; rfl, by simp [h3], fun i u d0 hu hd0 => ?_⟩
            cases i with
            | succ i => exact h4 i u d0 (by simpa using hu) (by simpa using hd0)
            | zero =>
              simp only [List.getElem?_cons_zero, Option.some.injEq] at hu hd0
              subst hu; subst hd0
              rw [hrv]
              cases hdd : aggB d with
              | true =>
                simp only [if_true, List.drop_zero]
                refine .agg _ _ (by simp; omega) (fun j v hv => ?_) (fun j v c0 hv hc0 => ?_)
                · simp only [List.getElem?_toArray, List.getElem?_map] at hv
                  cases hj : (List.range i0.size)[j]? with
                  | none => rw [hj] at hv; cases hv
                  | some j' =>
                    rw [hj] at hv
                    simp only [Option.map_some, Option.some.injEq] at hv
                    obtain ⟨hlt, he⟩ := List.getElem?_eq_some_iff.1 hj
                    simp only [List.length_range] at hlt
                    simp only [List.getElem_range] at he
                    subst he; subst hv
                    exact (hcr j hlt).choose_spec.2.1
                · simp only [List.getElem?_toArray, List.getElem?_map] at hv
                  cases hj : (List.range i0.size)[j]? with
                  | none => rw [hj] at hv; cases hv
                  | some j' =>
                    rw [hj] at hv
                    simp only [Option.map_some, Option.some.injEq] at hv
                    obtain ⟨hlt, he⟩ := List.getElem?_eq_some_iff.1 hj
                    simp only [List.length_range] at hlt
                    simp only [List.getElem_range] at he
                    subst he; subst hv
                    obtain ⟨d1, h13, _, h14⟩ := hcr j hlt
                    rw [List.getElem?_take, if_pos hlt, h13] at hc0
                    obtain rfl := Option.some.inj hc0
                    exact h14
              | false =>
                simp only [Bool.false_eq_true, if_false, List.drop_zero]
                have h1z : i0.size = 1 := h1s.resolve_left (by simp [hdd])
                obtain ⟨d1, h13, _, h14⟩ := hcr 0 (by omega)
                rw [show cells.getD 0 .any = d1 by simp [List.getD, h13]]
                exact h14
  | [], _ :: _, _, hc, _ => by simp [chkRes] at hc
  | .tmp _ :: _, [], _, hc, _ => by simp [chkRes] at hc
  | .cell _ _ :: _, [], _, hc, _ => by simp [chkRes] at hc
  | .tmp _ :: _, .cell _ _ _ :: _, _, hc, _ => by simp [chkRes] at hc
  | .cell _ _ :: _, .tmp _ :: _, _, hc, _ => by simp [chkRes] at hc
end

theorem fn_contract {P : Program} {num : Nat → Option FuncId} {fz : List (Nat × Obj)} {f : FuncId} {fn : Func} {c : CFn} {cl : Callee} (hf : P.funcs[f]? = some fn) (hc : chkFn P num fn c = true) (hm : P.follows .mixedOrders = true)
    (hK : ∀ (k : Nat) (f : FuncId) (args : List AV) (objs : List AO) (r : AV) (outs : List (Option AO)), num k = some f → cl k args objs = some (r, outs) → Contract P num fz f args objs r outs)
    {args : List AV} {objs : List AO} {r : AV} {outs : List (Option AO)} (h : runFn cl c args objs = some (r, outs)) : Contract P num fz f args objs r outs := by
  intro cx g w vs hP hnum hfz hw0 hbase hh0 hv0 hu m hsz hrel
  subst hP; subst hnum; subst hfz
  simp only [chkFn, Bool.and_eq_true, bne_iff_ne, ne_eq, beq_iff_eq] at hc
  obtain ⟨hname, hnt, hbody⟩ := hc
  split at hbody
  case h_2 => cases hbody
  rename_i b hb
  simp only [Bool.and_eq_true] at hbody
  obtain ⟨hcode, hres⟩ := hbody
  simp only [runFn] at h
  split at h
  case isFalse => cases h
  rename_i hal
  cases hrun : runCode cl c.body ⟨startSlots args 0, startHeap objs 0, 0, objs.length, objs.length⟩ with
  | none => rw [hrun] at h; cases h
  | some p =>
    obtain ⟨ex, s⟩ := p
    rw [hrun] at h
    have hend : (ex = .ret ∨ ex = .normal) ∧ endFn c objs.length s = some (r, outs) := by
      cases ex with
      | ret => exact ⟨.inl rfl, h⟩
      | normal => exact ⟨.inr rfl, h⟩
      | exit id => cases h
    obtain ⟨hex, hend⟩ := hend
    intro o a next Q hnext
    have hcf : (callFunc f vs).run cx.P w = .ok (.enter f vs) w := by
      simp [callFunc, hf, hname, hb]
    rw [hcf, Oper.upon_enter]
    refine Calls.mono (R := fun e w' => match e with | .returned v => (∃ I N S fo, Post cx w' v r outs I N S fo) | _ => False) ?_ (fun e w' he => by
      cases e with
      | returned v => exact hnext v w' he
      | panicked _ => exact he.elim
      | outgrown => exact he.elim)
    refine calls_of_wp hf hb (code_goes hm hK c.body b hcode _ ex s _ w _ hrun ⟨g, ⟨?_, rfl, fun t => ?_, m⟩, hu, hbase.symm⟩ (fun a' w' hg => ?_))
    · show (vs ++ Array.replicate (fn.ntmps - vs.size) undef).size = c.nt
      simp; omega
    · show SRel cx.num w cx.R g (startHeap objs 0) 0 ((vs ++ Array.replicate (fn.ntmps - vs.size) undef).getD t undef) (startSlots args 0 t)
      rw [startSlots_get, if_pos (Nat.zero_le _), Nat.sub_zero]
      by_cases ht : t < args.length
      · have h1 : vs[t]? = some (vs[t]'(by omega)) := Array.getElem?_eq_getElem (by omega)
        have h2 : args[t]? = some (args[t]'ht) := List.getElem?_eq_getElem ht
        have h3 : (vs ++ Array.replicate (fn.ntmps - vs.size) undef).getD t undef = vs[t]'(by omega) := by
          rw [Array.getD_eq_getD_getElem?, Array.getElem?_append_left (by omega), h1]; rfl
        rw [h3, show args.getD t .any = args[t]'ht by simp [List.getD, h2]]
        exact hrel t _ _ h1 h2
      · rw [show args.getD t .any = .any by simp [List.getD, List.getElem?_eq_none (Nat.le_of_not_lt ht)]]
        exact .any _
    · obtain ⟨g', hcr, hu', hb'⟩ := hg
      unfold endFn at hend
      cases hrv : resVals s c.res with
      | none => rw [hrv] at hend; cases hend
      | some rvs =>
        rw [hrv] at hend
        simp only at hend
        cases hst : shutT s.heap rvs with
        | none => rw [hst] at hend; cases hend
        | some q =>
          obtain ⟨ws, is⟩ := q
          rw [hst] at hend
          simp only at hend
          cases hsb : shutBoxes s.heap 0 objs.length with
          | none => rw [hsb] at hend; cases hend
          | some js =>
            rw [hsb] at hend
            simp only at hend
            split at hend
            case isFalse => cases hend
            rename_i hcond
            simp only [Bool.and_eq_true, List.all_eq_true] at hcond
            simp only [Option.some.injEq, Prod.mk.injEq] at hend
            obtain ⟨hr1, hr2⟩ := hend
            obtain ⟨us, hrs, hul, hur⟩ := res_rel hcr hres hrv
            have hpost := end_post hcr.mem hul hur hst (by rw [hbase]; exact hsb) hcond.1 (fun i hi cells ho => by
              have := hcond.2 i hi
              rw [ho] at this
              rw [hbase]
              simpa using this)
            have hresults : (results fn a'.tmps).run cx.P w' = .ok (if hz : us.length = 1 then us[0]'(by omega) else .tuple us.toArray) w' := by
              have hmm : (fn.results.mapM (resOf a'.tmps)).run cx.P w' = .ok us.toArray w' := by
                rw [Array.mapM_eq_mapM_toList, Sem.run_map, hrs, Result.andThen_ok]
              have he : results fn a'.tmps = (do
                  let vs ← fn.results.mapM (resOf a'.tmps)
                  pure (if h : vs.size = 1 then vs[0] else .tuple vs)) := by
                unfold results
                congr 1
              rw [he]
              simp [hmm]
            have hpost' : ∃ I N S fo, Post cx w' (if hz : us.length = 1 then us[0]'(by omega) else .tuple us.toArray) r outs I N S fo := by
              rw [hbase] at hpost
              rw [← hr1, ← hr2]
              exact hpost
            rcases hex with rfl | rfl
            · exact ⟨hcr.defers, _, hresults, hpost'⟩
            · exact ⟨hcr.defers, _, hresults, hpost'⟩

/-- A program and its abstract one. -/
structure Tied (P : Program) (num : Nat → Option FuncId) (fz : List (Nat × Obj)) (p : CProg) : Prop where
  mixed : P.follows .mixedOrders = true
  fns : ∀ k c, p.fn k = some c → ∀ f, num k = some f → ∃ fn, P.funcs[f]? = some fn ∧ chkFn P num fn c = true
  prims : ∀ k f args objs r outs, num k = some f → p.fn k = none → p.prim k args objs = some (r, outs) → Contract P num fz f args objs r outs

theorem Tied.call {P : Program} {num : Nat → Option FuncId} {fz : List (Nat × Obj)} {p : CProg} (t : Tied P num fz p) : ∀ (d k : Nat) (f : FuncId) (args : List AV) (objs : List AO) (r : AV) (outs : List (Option AO)), num k = some f → p.call d k args objs = some (r, outs) → Contract P num fz f args objs r outs
  | 0, k, f, args, objs, r, outs, _, h => by cases h
  | d + 1, k, f, args, objs, r, outs, hn, h => by
    simp only [CProg.call] at h
    cases hc : p.fn k with
    | none => rw [hc] at h; exact t.prims k f args objs r outs hn hc h
    | some c =>
      rw [hc] at h
      obtain ⟨fn, hf, hchk⟩ := t.fns k c hc f hn
      exact fn_contract hf hchk t.mixed (fun k f args objs r outs hn h => t.call d k f args objs r outs hn h) h
end Go.Proofs.Ytgpedkkhndljiaa

namespace Go.Proofs.Ytgpedkkhndljiaa
open Go Go.RowKit Go.WideShapes
set_option linter.unusedSimpArgs false

/-- The shape of a value's cells. -/
inductive Sh where
  | bool
  | int (k : IntKind)
  | str
  | sl (row : List Sh)

mutual
def Fits : Sh → AV → Prop
  | .bool, c => ∃ b, c = .bool b
  | .int k, c => ∃ n, c = .int k n ∧ (Lit.int k n).wf = true
  | .str, c => ∃ s : ByteArray, c = .str s ∧ s.size ≤ maxLen
  | .sl row, c => ∃ xs, c = .sl .bor row.length xs ∧ xs.length ≤ maxLen ∧ ∀ r ∈ xs, FitsL row r
def FitsL : List Sh → List AV → Prop
  | [], [] => True
  | s :: ss, c :: cs => Fits s c ∧ FitsL ss cs
  | _, _ => False
end

theorem FitsL.append : ∀ {as bs : List Sh} {cs ds : List AV}, FitsL as cs → FitsL bs ds → FitsL (as ++ bs) (cs ++ ds)
  | [], _, [], _, _, h => h
  | _ :: _, _, _ :: _, _, h, k => by
    simp only [FitsL, List.cons_append] at h ⊢
    exact ⟨h.1, FitsL.append h.2 k⟩
  | [], _, _ :: _, _, h, _ => by simp [FitsL] at h
  | _ :: _, _, [], _, h, _ => by simp [FitsL] at h

theorem FitsL.len : ∀ {as : List Sh} {cs : List AV}, FitsL as cs → cs.length = as.length
  | [], [], _ => rfl
  | _ :: _, _ :: _, h => by simp only [FitsL] at h; simp [FitsL.len h.2]
  | [], _ :: _, h => by simp [FitsL] at h
  | _ :: _, [], h => by simp [FitsL] at h

def shFs (F : TypeId → Option (List Sh)) (P : Program) : Nat → List Field → Option (List Sh)
  | _, [] => some []
  | off, f :: fs => match F f.type with
    | some a => if f.offset = off ∧ P.cellsOf f.type = a.length then match shFs F P (off + a.length) fs with
      | some b => some (a ++ b)
      | none => none
      else none
    | none => none

/-- The shape of a type's cells. -/
def shOf (P : Program) : Nat → TypeId → Option (List Sh)
  | 0, _ => none
  | d + 1, t => match P.underlying t with
    | some .bool => some [.bool]
    | some (.int k) => some [.int k]
    | some .string => some [.str]
    | some (.slice e) => match shOf P d e with
      | some row => if P.cellsOf e = row.length ∧ row.length ≠ 0 then some [.sl row] else none
      | none => none
    | some (.struct fs) => match shFs (shOf P d) P 0 fs.toList with
      | some a => if P.cellsOf t = a.length then some a else none
      | none => none
    | _ => none

section
variable {H : Type} {enc : TypeId × Value → H} {P : Program} {W : World} {base : Nat} {spare : Nat → Bool} {held : Bool}

def Old (W : World) (b : Nat) : Prop := b < W.heap.size

/-- Cells that read as these. -/
structure ReadL (W : World) (cs : List Value) (sh : List Sh) (avs : List AV) : Prop where
  fits : FitsL sh avs
  len : cs.length = avs.length
  bor : ∀ (j : Nat) (u : Value) (c : AV), cs[j]? = some u → avs[j]? = some c → Bor W (Old W) u c

theorem ReadL.one {u : Value} {s : Sh} {c : AV} (hf : Fits s c) (hb : Bor W (Old W) u c) : ReadL W [u] [s] [c] := by
  refine ⟨⟨hf, trivial⟩, rfl, fun j v d hv hd => ?_⟩
  cases j with
  | zero => simp only [List.getElem?_cons_zero, Option.some.injEq] at hv hd; subst hv; subst hd; exact hb
  | succ j => simp at hv

theorem fields_read {F : TypeId → Option (List Sh)} {n : Nat} {cs : List Value} : ∀ (fs : List Field) (off : Nat) (sh : List Sh), shFs F P off fs = some sh → cs.length = off + sh.length →
    (∀ f ∈ fs, ∀ a, F f.type = some a → ∀ cs' y, DataW.trod enc P W base spare held n f.type cs' = some y → ∃ avs, ReadL W cs' a avs) →
    (∀ f ∈ fs, ∃ y, DataW.trod enc P W base spare held n f.type ((cs.drop f.offset).take (P.cellsOf f.type)) = some y) → ∃ avs, ReadL W (cs.drop off) sh avs
  | [], off, sh, hs, hl, _, _ => by
    simp only [shFs, Option.some.injEq] at hs
    subst hs
    refine ⟨[], trivial, by simp at hl ⊢; omega, fun j u c _ hc => by simp at hc⟩
  | f :: fs, off, sh, hs, hl, hF, hr => by
    simp only [shFs] at hs
    cases hf : F f.type with
    | none => rw [hf] at hs; cases hs
    | some a =>
      rw [hf] at hs
      simp only at hs
      split at hs
      case isFalse => cases hs
      rename_i hoff
      obtain ⟨hoff, hsz⟩ := hoff
      cases hb : shFs F P (off + a.length) fs with
      | none => rw [hb] at hs; cases hs
      | some b =>
        rw [hb] at hs
        simp only [Option.some.injEq] at hs
        subst hs
        rw [List.length_append] at hl
        obtain ⟨y, hy⟩ := hr f List.mem_cons_self
        obtain ⟨as, h1⟩ := hF f List.mem_cons_self a hf _ y hy
        obtain ⟨bs, h2⟩ := fields_read fs (off + a.length) b hb (by omega) (fun g hg => hF g (List.mem_cons_of_mem _ hg)) (fun g hg => hr g (List.mem_cons_of_mem _ hg))
        rw [hoff, hsz] at h1
        have hsplit : cs.drop off = (cs.drop off).take a.length ++ cs.drop (off + a.length) := by rw [← List.drop_drop, List.take_append_drop]
        have hla : ((cs.drop off).take a.length).length = a.length := by simp; omega
        have hlas := h1.fits.len
        refine ⟨as ++ bs, h1.fits.append h2.fits, by rw [hsplit, List.length_append, h1.len, h2.len, List.length_append], fun j u c hu hc => ?_⟩
        rw [hsplit] at hu
        by_cases hj : j < a.length
        · rw [List.getElem?_append_left (by omega)] at hu hc
          exact h1.bor j u c hu hc
        · rw [List.getElem?_append_right (by omega), hla] at hu
          rw [List.getElem?_append_right (by omega), hlas] at hc
          exact h2.bor _ u c hu hc

theorem cells_read : ∀ (d : Nat) (t : TypeId) (sh : List Sh), shOf P d t = some sh → ∀ (n : Nat) (cs : List Value) (y : DataW H × List MemPlace), DataW.trod enc P W base spare held n t cs = some y → ∃ avs, ReadL W cs sh avs
  | 0, _, _, hs => by cases hs
  | d + 1, t, sh, hs => by
    intro n cs y hy
    simp only [shOf] at hs
    cases ht : P.underlying t with
    | none => rw [ht] at hs; cases hs
    | some td =>
      rw [ht] at hs
      cases td <;> simp only [reduceCtorEq, Option.some.injEq] at hs
      · subst hs
        obtain ⟨b, rfl, _⟩ := DataW.trod_bool ht hy
        exact ⟨[.bool b], .one ⟨b, rfl⟩ (.bool b)⟩
      · subst hs
        obtain ⟨k, rfl, _, hw⟩ := DataW.trod_int ht hy
        exact ⟨[.int _ k], .one ⟨k, rfl, hw⟩ (.int _ _)⟩
      · subst hs
        obtain ⟨s, rfl, _, hw⟩ := DataW.trod_string ht hy
        exact ⟨[.str s], .one ⟨s, rfl, hw⟩ (.str _)⟩
      · rename_i e
        cases he : shOf P d e with
        | none => rw [he] at hs; cases hs
        | some row =>
          rw [he] at hs
          simp only at hs
          split at hs
          case isFalse => cases hs
          rename_i hsz
          obtain ⟨hsz, hpos⟩ := hsz
          simp only [Option.some.injEq] at hs
          subst hs
          rcases DataW.trod_slice ht hy with ⟨rfl, _⟩ | ⟨a, len, cap, elems, rest, m, _, rfl, _, _, hlc, hcm, hel, hget, _⟩
          · exact ⟨[.sl .bor row.length []], .one ⟨[], rfl, by simp, by simp⟩ (.nil _ _ _ _)⟩
          · by_cases hz : len = 0
            · subst hz
              exact ⟨[.sl .bor row.length []], .one ⟨[], rfl, by simp, by simp⟩ (.nil _ _ _ _)⟩
            · -- every row
              have hrow : ∀ i, ∃ avs csi, i < len → (∀ j, j < row.length → W.cell? ((a.add (i * row.length)).add j) = csi[j]?) ∧ csi.length = row.length ∧ ReadL W csi row avs := by
                intro i
                by_cases hi : i < len
                · have hgi := hget i hi
                  rw [show elems[i]? = some (elems[i]'(by omega)) from List.getElem?_eq_getElem _] at hgi
                  obtain ⟨csi, hc1, hc2⟩ := Option.bind_eq_some_iff.1 hgi
                  rw [hsz] at hc1
                  obtain ⟨_, hl, hcell⟩ := World.cells?_some hc1
                  obtain ⟨avs, hav⟩ := cells_read d e row he m csi _ hc2
                  exact ⟨avs, csi, fun _ => ⟨hcell, hl, hav⟩⟩
                · exact ⟨[], [], fun h => absurd h hi⟩
              let avr : Nat → List AV := fun i => (hrow i).choose
              let csr : Nat → List Value := fun i => (hrow i).choose_spec.choose
              have hr : ∀ i, i < len → (∀ j, j < row.length → W.cell? ((a.add (i * row.length)).add j) = (csr i)[j]?) ∧ (csr i).length = row.length ∧ ReadL W (csr i) row (avr i) := fun i hi => (hrow i).choose_spec.choose_spec hi
              obtain ⟨h01, h02, _⟩ := hr 0 (by omega)
              have hc00 : (csr 0)[0]? = some ((csr 0)[0]'(by omega)) := List.getElem?_eq_getElem _
              have hcell0 := h01 0 (by omega)
              rw [hc00] at hcell0
              have hspot : a.spot = none := by
                have := World.cell?_spot hcell0
                obtain ⟨b, off, sp⟩ := a
                unfold Addr.add at this
                split at this <;> split at this <;> simp_all
              obtain ⟨b, off, sp⟩ := a
              simp only at hspot
              subst hspot
              have hadd : ∀ i j, ((⟨b, off, none⟩ : Addr).add (i * row.length)).add j = ⟨b, off + i * row.length + j, none⟩ := fun i j => by rw [add_none, add_none]
              have hold : Old W b := by
                rw [hadd] at hcell0
                unfold World.cell? at hcell0
                unfold Old
                rcases Nat.lt_or_ge b W.heap.size with h | h
                · exact h
                · simp [Array.getElem?_eq_none h] at hcell0
              let xs : List (List AV) := (List.range len).map avr
              have hxl : xs.length = len := by simp [xs]
              have hxi : ∀ i r, xs[i]? = some r → i < len ∧ r = avr i := fun i r hi => by
                have h1 := (List.getElem?_eq_some_iff.1 hi).1
                have h2 : i < len := by omega
                simp only [xs, List.getElem?_map, List.getElem?_range h2, Option.map_some, Option.some.injEq] at hi
                exact ⟨h2, hi.symm⟩
              refine ⟨[.sl .bor row.length xs], .one ⟨xs, rfl, by omega, fun r hrm => ?_⟩ ?_⟩
              · obtain ⟨i, hi⟩ := List.getElem?_of_mem hrm
                obtain ⟨h1, rfl⟩ := hxi i r hi
                exact (hr i h1).2.2.fits
              · have hb := Bor.sl (w := W) (R := Old W) .bor row.length xs b off cap (fun i j => (csr i)[j]?.getD undef) (by omega) hold (fun r hrm => by
                    obtain ⟨i, hi⟩ := List.getElem?_of_mem hrm
                    obtain ⟨h1, rfl⟩ := hxi i r hi
                    exact (hr i h1).2.2.fits.len) (fun i j c hc => by
                    obtain ⟨r, h1, h2⟩ := cellAt_some.1 hc
                    obtain ⟨hi, rfl⟩ := hxi i r h1
                    obtain ⟨q1, q2, q3⟩ := hr i hi
                    have hj := (List.getElem?_eq_some_iff.1 h2).1
                    have hjl : j < row.length := by rw [← q3.fits.len]; exact hj
                    rw [← hadd, q1 j hjl, List.getElem?_eq_getElem (by omega)]; rfl) (fun i j c hc => by
                    obtain ⟨r, h1, h2⟩ := cellAt_some.1 hc
                    obtain ⟨hi, rfl⟩ := hxi i r h1
                    obtain ⟨q1, q2, q3⟩ := hr i hi
                    have hj := (List.getElem?_eq_some_iff.1 h2).1
                    have hjl : j < row.length := by rw [← q3.fits.len]; exact hj
                    have hu : (csr i)[j]? = some ((csr i)[j]'(by omega)) := List.getElem?_eq_getElem _
                    simp only [hu, Option.getD_some]
                    exact q3.bor j _ c hu h2)
                rw [hxl] at hb
                exact hb
      · rename_i fs
        cases hfs : shFs (shOf P d) P 0 fs.toList with
        | none => rw [hfs] at hs; cases hs
        | some a =>
          rw [hfs] at hs
          simp only at hs
          split at hs
          case isFalse => cases hs
          rename_i hsz
          simp only [Option.some.injEq] at hs
          subst hs
          obtain ⟨xs, m, _, _, hcl, hxl, hget⟩ := DataW.trod_struct ht hy
          have := fields_read (enc := enc) (W := W) (base := base) (spare := spare) (held := held) (n := m) (cs := cs) fs.toList 0 a hfs (by omega) (fun f _ a' ha cs' y hy => cells_read d f.type a' ha m cs' y hy) (fun f hf => by
            obtain ⟨i, hi⟩ := List.getElem?_of_mem hf
            have hi' : fs[i]? = some f := by simpa using hi
            have hlt := (Array.getElem?_eq_some_iff.1 hi').1
            exact ⟨xs[i]'(by omega), (hget i f hi').trans (List.getElem?_eq_getElem _)⟩)
          simpa using this
end
end Go.Proofs.Ytgpedkkhndljiaa

namespace Go.Proofs.Ytgpedkkhndljiaa
open Go Go.RowKit Go.WideShapes
set_option linter.unusedSimpArgs false

def cx0 (P : Program) (num : Nat → Option FuncId) (fz : List (Nat × Obj)) (W : World) : Cx := ⟨P, num, Old W, fun _ => False, Old W, Old W, W, 0, fun _ => none, fun _ => undef, fz⟩
def g0 (W : World) : Gh := ⟨fun _ => undef, fun _ _ => False, Old W, Old W, fun _ => False⟩

/-- An argument reads as this. -/
def ArgRel (num : Nat → Option FuncId) (W : World) (v : Value) (c : AV) : Prop := SRel num W (Old W) (g0 W) (fun _ => none) 0 v c

theorem mem0 (P : Program) (num : Nat → Option FuncId) {fz : List (Nat × Obj)} (W : World) (hfz : ∀ p ∈ fz, W.heap[p.1]? = some p.2) (hsrt : SrtAll P num) : Mem (cx0 P num fz W) (fun _ => none) 0 (g0 W) W :=
  ⟨fun _ _ h => (nomatch h), fun _ _ h => (nomatch h), fun _ _ _ _ _ h => (nomatch h), fun _ _ _ h => (nomatch h), fun _ h => h, fun _ h => h, fun _ h => .inl h, fun _ h => h, fun _ h => h, fun _ h => .inl h,
    fun _ h => absurd h (Nat.not_lt_zero _), fun _ _ h => absurd h (Nat.not_lt_zero _), fun _ h => h, fun _ h => ⟨h, fun h => h⟩, fun _ h => ⟨h, fun h => h⟩, FrameW.refl _ _, fun p hp => ⟨(Array.getElem?_eq_some_iff.1 (hfz p hp)).1, hfz p hp⟩, hsrt⟩

/-- What came with the call from outside nobody writes. -/
theorem ArgRel.imm {num : Nat → Option FuncId} {W : World} {v : Value} {sz : Nat} {xs : List (List AV)} (h : ArgRel num W v (.sl .bor sz xs)) : ArgRel num W v (.sl .imm sz xs) := by
  cases h with
  | sl _ _ _ _ h1 hm _ _ => exact .sl _ _ _ _ h1 (fun _ => (hm rfl).md) (fun e he => by cases he) (by simp)

theorem fits_lend : ∀ {s : Sh} {c : AV}, Fits s c → c.lend .bor = c
  | .bool, c, h => by simp only [Fits] at h; obtain ⟨b, rfl⟩ := h; rfl
  | .int k, c, h => by simp only [Fits] at h; obtain ⟨n, rfl, _⟩ := h; rfl
  | .str, c, h => by simp only [Fits] at h; obtain ⟨s, rfl, _⟩ := h; rfl
  | .sl row, c, h => by simp only [Fits] at h; obtain ⟨xs, rfl, _⟩ := h; rfl

theorem FitsL.get : ∀ {ss : List Sh} {cs : List AV}, FitsL ss cs → ∀ (j : Nat) (c : AV), cs[j]? = some c → ∃ s, ss[j]? = some s ∧ Fits s c
  | [], [], _, j, c, h => by simp at h
  | s :: ss, d :: cs, h, j, c, hc => by
    simp only [FitsL] at h
    cases j with
    | zero => simp only [List.getElem?_cons_zero, Option.some.injEq] at hc; subst hc; exact ⟨s, rfl, h.1⟩
    | succ j => obtain ⟨s', h1, h2⟩ := FitsL.get h.2 j c (by simpa using hc); exact ⟨s', by simpa using h1, h2⟩
  | [], _ :: _, h, _, _, _ => by simp [FitsL] at h
  | _ :: _, [], h, _, _, _ => by simp [FitsL] at h

section
variable {H : Type} {enc : TypeId × Value → H} {P : Program} {num : Nat → Option FuncId} {W : World} {r : Reach} {b0 base : Nat} {spare : Nat → Bool} {held : Bool} {t : TypeId} {v : Value} {d : DataW H} {ps : List MemPlace}

theorem ReadL.arg {cs : List Value} {sh : List Sh} {avs : List AV} (h : ReadL W cs sh avs) {j : Nat} {u : Value} {c : AV} (hu : cs[j]? = some u) (hc : avs[j]? = some c) : ArgRel num W u c ∧ u.oneCell' = true := by
  obtain ⟨s, _, hs⟩ := h.fits.get j c hc
  have hb := h.bor j u c hu hc
  have := SRel.of_bor (num := num) (w := W) (R := Old W) (g := g0 W) (h := fun _ => none) (ep := 0) (m := .bor) hb (fun e he => by cases he) (by simp)
  rw [fits_lend hs] at this
  exact ⟨this, hb.one⟩

theorem arg_struct {fs : Array Field} (ht : P.underlying t = some (.struct fs)) {k : Nat} {sh : List Sh} (hs : shOf P k t = some sh) (hval : Value.okWide P W r b0 t v) (hd : DataW.Trod enc P W base spare held t v d ps) :
    ∃ avs, FitsL sh avs ∧ ArgRel num W v (.agg avs) := by
  obtain ⟨vs, rfl, _⟩ := okWide_struct ht hval
  obtain ⟨n, hn⟩ := hd
  obtain ⟨avs, ha⟩ := cells_read k t sh hs n _ _ hn
  simp only [Value.cells] at ha
  refine ⟨avs, ha.fits, .agg vs avs (by simpa using ha.len) (fun i u hu => ?_) (fun i u c hu hc => (ha.arg (num := num) (by simpa using hu) hc).1)⟩
  have hi := (Array.getElem?_eq_some_iff.1 hu).1
  have hl := ha.len
  rw [Array.length_toList] at hl
  exact (ha.arg (num := num) (j := i) (by simpa using hu) (List.getElem?_eq_getElem (by omega))).2

theorem arg_one {s : Sh} {k : Nat} (hs : shOf P k t = some [s]) (hv : v.cells.toList = [v]) (hd : DataW.Trod enc P W base spare held t v d ps) : ∃ c, Fits s c ∧ ArgRel num W v c := by
  obtain ⟨n, hn⟩ := hd
  obtain ⟨avs, ha⟩ := cells_read k t [s] hs n _ _ hn
  rw [hv] at ha
  have hl := ha.fits.len
  match avs, hl, ha with
  | [c], _, ha =>
    have hf := ha.fits
    simp only [FitsL, and_true] at hf
    exact ⟨c, hf, (ha.arg (j := 0) rfl rfl).1⟩

theorem arg_int {q : IntKind} (ht : P.underlying t = some (.int q)) (hval : Value.okWide P W r b0 t v) (hd : DataW.Trod enc P W base spare held t v d ps) : ∃ n, ArgRel num W v (.int q n) ∧ (Lit.int q n).wf = true := by
  obtain ⟨n, rfl⟩ := okWide_int ht hval
  obtain ⟨c, h1, h2⟩ := arg_one (num := num) (k := 1) (s := .int q) (by simp [shOf, ht]) rfl hd
  simp only [Fits] at h1
  obtain ⟨m, rfl, hw⟩ := h1
  exact ⟨m, h2, hw⟩

theorem arg_str (ht : P.underlying t = some .string) (hval : Value.okWide P W r b0 t v) (hd : DataW.Trod enc P W base spare held t v d ps) : ∃ s : ByteArray, ArgRel num W v (.str s) ∧ s.size ≤ maxLen := by
  obtain ⟨n, rfl⟩ := okWide_string ht hval
  obtain ⟨c, h1, h2⟩ := arg_one (num := num) (k := 1) (s := .str) (by simp [shOf, ht]) rfl hd
  simp only [Fits] at h1
  obtain ⟨m, rfl, hw⟩ := h1
  exact ⟨m, h2, hw⟩

theorem arg_slice {e : TypeId} (ht : P.underlying t = some (.slice e)) {k : Nat} {row : List Sh} (hs : shOf P k t = some [.sl row]) (hval : Value.okWide P W r b0 t v) (hd : DataW.Trod enc P W base spare held t v d ps) :
    ∃ xs, ArgRel num W v (.sl .bor row.length xs) ∧ xs.length ≤ maxLen ∧ ∀ x ∈ xs, FitsL row x := by
  obtain ⟨a, len, cap, rfl⟩ := okWide_slice ht hval
  obtain ⟨c, h1, h2⟩ := arg_one (num := num) (k := k) (s := .sl row) hs rfl hd
  simp only [Fits] at h1
  obtain ⟨xs, rfl, h3, h4⟩ := h1
  exact ⟨xs, h2, h3, h4⟩
end

/-- The arguments of a call, side by side. -/
inductive ArgsRel (num : Nat → Option FuncId) (W : World) : List Value → List AV → Prop
  | nil : ArgsRel num W [] []
  | cons (v : Value) (c : AV) (vs : List Value) (cs : List AV) (h : ArgRel num W v c) (hs : ArgsRel num W vs cs) : ArgsRel num W (v :: vs) (c :: cs)

theorem ArgsRel.get {num : Nat → Option FuncId} {W : World} {vs : List Value} {cs : List AV} (h : ArgsRel num W vs cs) : vs.length = cs.length ∧ ∀ (i : Nat) (v : Value) (c : AV), vs[i]? = some v → cs[i]? = some c → ArgRel num W v c := by
  induction h with
  | nil => exact ⟨rfl, fun i v c hv => by simp at hv⟩
  | cons v c vs cs h _ ih =>
    refine ⟨by simp [ih.1], fun i u d hu hd => ?_⟩
    cases i with
    | zero => simp only [List.getElem?_cons_zero, Option.some.injEq] at hu hd; subst hu; subst hd; exact h
    | succ i => exact ih.2 i u d (by simpa using hu) (by simpa using hd)

/-- A call from outside that answers with a truth value, and turns nothing that was there. -/
theorem law_calls {P : Program} {num : Nat → Option FuncId} {fz : List (Nat × Obj)} {f : FuncId} {fn : Func} {body : Code} (hf : P.funcs[f]? = some fn) (hb : fn.body = some body) (hn : fn.name ≠ "runtime.NumGoroutine") {args : List AV} {ans : Bool}
    (hC : Contract P num fz f args [] (.bool ans) []) {W : World} (hfz : ∀ p ∈ fz, W.heap[p.1]? = some p.2) (hsrt : SrtAll P num) {vs : Array Value} (ha : ArgsRel num W vs.toList args) : Calls P f vs W fun e W' => e = .returned (.bool ans) ∧ Below W.heap.size W W' := by
  obtain ⟨hl, hg⟩ := ha.get
  rw [Array.length_toList] at hl
  have h := hC (cx0 P num fz W) (g0 W) W vs rfl rfl rfl rfl rfl rfl rfl (fun _ h => h.elim) (mem0 P num W hfz hsrt) hl (fun i v c hv hc => hg i v c (by simpa using hv) hc)
  have h2 := h ⟨some 0, .move (.tmp 0), 0, "", #[], none⟩ ⟨#[undef], []⟩ (fun a' w' => ∃ I N S fo, Post (cx0 P num fz W) w' (a'.tmps.getD 0 undef) (.bool ans) [] I N S fo) (fun _ _ _ => False) (fun v w' hp => by
    have : ((⟨#[undef], []⟩ : Act).put (some 0) v).tmps.getD 0 undef = v := by simp [Act.put]
    rw [this]; exact hp)
  have hcf : (callFunc f vs).run P W = .ok (.enter f vs) W := by simp [callFunc, hf, hn, hb]
  rw [hcf, Oper.upon_enter] at h2
  refine h2.mono fun e w' he => ?_
  cases e with
  | panicked _ => exact he.elim
  | outgrown => obtain ⟨_, _, h⟩ := he; exact h.elim
  | returned v =>
    obtain ⟨I, N, S, fo, hp⟩ := he
    have hv : ((⟨#[undef], []⟩ : Act).put (some 0) v).tmps.getD 0 undef = v := by simp [Act.put]
    rw [hv] at hp
    have hres := hp.res
    have : v = .bool ans := by
      cases hres with
      | one _ _ _ h _ => cases h with
        | one _ _ _ h _ => cases h; rfl
    subst this
    exact ⟨rfl, hp.frame.os, hp.frame.tape, hp.frame.output, hp.frame.size, fun k hk => hp.frame.block k hk (fun h => h)⟩
end Go.Proofs.Ytgpedkkhndljiaa

namespace Go.Proofs.Ytgpedkkhndljiaa
open Go Go.RowKit Go.WideShapes
set_option linter.unusedSimpArgs false

def I64 (n : Int) : Prop := -9223372036854775808 ≤ n ∧ n ≤ 9223372036854775807
theorem i64_wf {n : Int} (h : (Lit.int .i64 n).wf = true) : I64 n := by
  simp [Lit.wf, IntKind.min, IntKind.max, IntKind.signed, IntKind.bits] at h
  unfold I64
  omega

def shWant : List Sh := [.str, .int .i64, .str, .int .i64, .int .i64, .int .i64, .int .i64]
def shRun : List Sh := shWant ++ [.int .i64, .int .i64, .int .i64, .int .i64]
def shAsk : List Sh := [.str, .str, .int .i64, .int .i64]
def shMate : List Sh := [.str, .bool, .int .i64, .bool, .int .i64, .sl shWant, .sl shRun, .sl shAsk, .sl shAsk]
def shParcel : List Sh := [.int .i64, .str, .int .i64, .sl shWant, .str, .str, .int .i64]
def shGrant : List Sh := [.str, .str, .str, .int .i64, .int .i64]
def shPlace : List Sh := [.str, .int .i64, .sl shWant]
def shLand : List Sh := [.int .i64, .sl shGrant, .sl shPlace]
def shWorld : List Sh := shLand ++ [.sl shMate, .sl [.str]]
def shEvent : List Sh := [.int .i64, .int .i64, .int .i64, .sl shWant, .sl [.int .i64]]

structure Want.wf (w : Want) : Prop where
  copy : w.copy.size ≤ maxLen
  hold : w.hold.size ≤ maxLen
  version : I64 w.version
  pull : I64 w.pull
  start : I64 w.start
  dies : I64 w.dies
  grace : I64 w.grace
structure Run.wf (r : Run) : Prop where
  want : r.want.wf
  state : I64 r.state
  left : I64 r.left
  falls : I64 r.falls
  til : I64 r.til
structure Ask.wf (a : Ask) : Prop where
  hold : a.hold.size ≤ maxLen
  copy : a.copy.size ≤ maxLen
  first : I64 a.first
  at_ : I64 a.at_
structure ListWf {α : Type} (p : α → Prop) (xs : List α) : Prop where
  len : xs.length ≤ maxLen
  all : ∀ x ∈ xs, p x
structure Mate.wf (m : Mate) : Prop where
  name : m.name.size ≤ maxLen
  clock : I64 m.clock
  seen : I64 m.seen
  wants : ListWf Want.wf m.wants
  runs : ListWf Run.wf m.runs
  asks : ListWf Ask.wf m.asks
  gives : ListWf Ask.wf m.gives
structure Parcel.wf (p : Parcel) : Prop where
  kind : I64 p.kind
  berth : p.berth.size ≤ maxLen
  seen : I64 p.seen
  wants : ListWf Want.wf p.wants
  hold : p.hold.size ≤ maxLen
  copy : p.copy.size ≤ maxLen
  at_ : I64 p.at_
structure Grant.wf (g : Grant) : Prop where
  hold : g.hold.size ≤ maxLen
  berth : g.berth.size ≤ maxLen
  copy : g.copy.size ≤ maxLen
  at_ : I64 g.at_
  til : I64 g.til
structure Place.wf (p : Place) : Prop where
  berth : p.berth.size ≤ maxLen
  seen : I64 p.seen
  wants : ListWf Want.wf p.wants
structure Land.wf (l : Land) : Prop where
  time : I64 l.time
  grants : ListWf Grant.wf l.grants
  places : ListWf Place.wf l.places
structure Wld.wf (w : Wld) : Prop where
  land : w.land.wf
  mates : ListWf Mate.wf w.mates
  flight : ListWf (fun s : T => s.size ≤ maxLen) w.flight
structure Event.wf (e : Event) : Prop where
  kind : I64 e.kind
  a : I64 e.a
  b : I64 e.b
  wants : ListWf Want.wf e.wants
  rates : ListWf I64 e.rates

theorem fits_str {c : AV} (h : Fits .str c) : ∃ s : T, c = .str s ∧ s.size ≤ maxLen := by simpa only [Fits] using h
theorem fits_int {c : AV} (h : Fits (.int .i64) c) : ∃ n, c = .int .i64 n ∧ I64 n := by
  simp only [Fits] at h
  obtain ⟨n, h1, h2⟩ := h
  exact ⟨n, h1, i64_wf h2⟩
theorem fits_bool {c : AV} (h : Fits .bool c) : ∃ b, c = .bool b := by simpa only [Fits] using h
theorem fits_list {α : Type} {row : List Sh} {cf : α → List AV} {p : α → Prop} (hr : ∀ c, FitsL row c → ∃ x, c = cf x ∧ p x) {c : AV} (h : Fits (.sl row) c) : ∃ xs, c = .sl .bor row.length (xs.map cf) ∧ ListWf p xs := by
  simp only [Fits] at h
  obtain ⟨rows, rfl, hl, ha⟩ := h
  have : ∀ rows : List (List AV), (∀ r ∈ rows, FitsL row r) → ∃ xs : List α, rows = xs.map cf ∧ ∀ x ∈ xs, p x := by
    intro rows
    induction rows with
    | nil => intro _; exact ⟨[], rfl, by simp⟩
    | cons r rows ih =>
      intro h
      obtain ⟨x, h1, h2⟩ := hr r (h r List.mem_cons_self)
      obtain ⟨xs, h3, h4⟩ := ih fun r hr => h r (List.mem_cons_of_mem _ hr)
      exact ⟨x :: xs, by rw [h1, h3]; rfl, fun y hy => by
        rcases List.mem_cons.1 hy with rfl | hy
        · exact h2
        · exact h4 y hy⟩
  obtain ⟨xs, rfl, h2⟩ := this rows ha
  exact ⟨xs, rfl, by simpa using hl, h2⟩
theorem fitsL_nil {c : List AV} (h : FitsL [] c) : c = [] := by
  cases c with
  | nil => rfl
  | cons _ _ => simp [FitsL] at h
theorem fitsL_cons {s : Sh} {ss : List Sh} {c : List AV} (h : FitsL (s :: ss) c) : ∃ d ds, c = d :: ds ∧ Fits s d ∧ FitsL ss ds := by
  cases c with
  | nil => simp [FitsL] at h
  | cons d ds => exact ⟨d, ds, rfl, by simpa [FitsL] using h⟩

theorem want_of {c : List AV} (h : FitsL shWant c) : ∃ w : Want, c = w.c ∧ w.wf := by
  obtain ⟨_, _, rfl, h0, h⟩ := fitsL_cons h
  obtain ⟨_, _, rfl, h1, h⟩ := fitsL_cons h
  obtain ⟨_, _, rfl, h2, h⟩ := fitsL_cons h
  obtain ⟨_, _, rfl, h3, h⟩ := fitsL_cons h
  obtain ⟨_, _, rfl, h4, h⟩ := fitsL_cons h
  obtain ⟨_, _, rfl, h5, h⟩ := fitsL_cons h
  obtain ⟨_, _, rfl, h6, h⟩ := fitsL_cons h
  obtain rfl := fitsL_nil h
  obtain ⟨s, rfl, k0⟩ := fits_str h0
  obtain ⟨n1, rfl, k1⟩ := fits_int h1
  obtain ⟨t, rfl, k2⟩ := fits_str h2
  obtain ⟨n3, rfl, k3⟩ := fits_int h3
  obtain ⟨n4, rfl, k4⟩ := fits_int h4
  obtain ⟨n5, rfl, k5⟩ := fits_int h5
  obtain ⟨n6, rfl, k6⟩ := fits_int h6
  exact ⟨⟨s, n1, t, n3, n4, n5, n6⟩, rfl, k0, k2, k1, k3, k4, k5, k6⟩

theorem run_of {c : List AV} (h : FitsL shRun c) : ∃ r : Run, c = r.c ∧ r.wf := by
  unfold shRun shWant at h
  obtain ⟨_, _, rfl, h0, h⟩ := fitsL_cons h
  obtain ⟨_, _, rfl, h1, h⟩ := fitsL_cons h
  obtain ⟨_, _, rfl, h2, h⟩ := fitsL_cons h
  obtain ⟨_, _, rfl, h3, h⟩ := fitsL_cons h
  obtain ⟨_, _, rfl, h4, h⟩ := fitsL_cons h
  obtain ⟨_, _, rfl, h5, h⟩ := fitsL_cons h
  obtain ⟨_, _, rfl, h6, h⟩ := fitsL_cons h
  obtain ⟨_, _, rfl, h7, h⟩ := fitsL_cons h
  obtain ⟨_, _, rfl, h8, h⟩ := fitsL_cons h
  obtain ⟨_, _, rfl, h9, h⟩ := fitsL_cons h
  obtain ⟨_, _, rfl, h10, h⟩ := fitsL_cons h
  obtain rfl := fitsL_nil h
  obtain ⟨s, rfl, k0⟩ := fits_str h0
  obtain ⟨n1, rfl, k1⟩ := fits_int h1
  obtain ⟨t, rfl, k2⟩ := fits_str h2
  obtain ⟨n3, rfl, k3⟩ := fits_int h3
  obtain ⟨n4, rfl, k4⟩ := fits_int h4
  obtain ⟨n5, rfl, k5⟩ := fits_int h5
  obtain ⟨n6, rfl, k6⟩ := fits_int h6
  obtain ⟨n7, rfl, k7⟩ := fits_int h7
  obtain ⟨n8, rfl, k8⟩ := fits_int h8
  obtain ⟨n9, rfl, k9⟩ := fits_int h9
  obtain ⟨n10, rfl, k10⟩ := fits_int h10
  exact ⟨⟨⟨s, n1, t, n3, n4, n5, n6⟩, n7, n8, n9, n10⟩, rfl, ⟨k0, k2, k1, k3, k4, k5, k6⟩, k7, k8, k9, k10⟩

theorem ask_of {c : List AV} (h : FitsL shAsk c) : ∃ a : Ask, c = a.c ∧ a.wf := by
  obtain ⟨_, _, rfl, h0, h⟩ := fitsL_cons h
  obtain ⟨_, _, rfl, h1, h⟩ := fitsL_cons h
  obtain ⟨_, _, rfl, h2, h⟩ := fitsL_cons h
  obtain ⟨_, _, rfl, h3, h⟩ := fitsL_cons h
  obtain rfl := fitsL_nil h
  obtain ⟨s, rfl, k0⟩ := fits_str h0
  obtain ⟨t, rfl, k1⟩ := fits_str h1
  obtain ⟨n2, rfl, k2⟩ := fits_int h2
  obtain ⟨n3, rfl, k3⟩ := fits_int h3
  exact ⟨⟨s, t, n2, n3⟩, rfl, k0, k1, k2, k3⟩

theorem grant_of {c : List AV} (h : FitsL shGrant c) : ∃ g : Grant, c = g.c ∧ g.wf := by
  obtain ⟨_, _, rfl, h0, h⟩ := fitsL_cons h
  obtain ⟨_, _, rfl, h1, h⟩ := fitsL_cons h
  obtain ⟨_, _, rfl, h2, h⟩ := fitsL_cons h
  obtain ⟨_, _, rfl, h3, h⟩ := fitsL_cons h
  obtain ⟨_, _, rfl, h4, h⟩ := fitsL_cons h
  obtain rfl := fitsL_nil h
  obtain ⟨s, rfl, k0⟩ := fits_str h0
  obtain ⟨t, rfl, k1⟩ := fits_str h1
  obtain ⟨u, rfl, k2⟩ := fits_str h2
  obtain ⟨n3, rfl, k3⟩ := fits_int h3
  obtain ⟨n4, rfl, k4⟩ := fits_int h4
  exact ⟨⟨s, t, u, n3, n4⟩, rfl, k0, k1, k2, k3, k4⟩

theorem mate_of {c : List AV} (h : FitsL shMate c) : ∃ m : Mate, c = m.c .bor ∧ m.wf := by
  obtain ⟨_, _, rfl, h0, h⟩ := fitsL_cons h
  obtain ⟨_, _, rfl, h1, h⟩ := fitsL_cons h
  obtain ⟨_, _, rfl, h2, h⟩ := fitsL_cons h
  obtain ⟨_, _, rfl, h3, h⟩ := fitsL_cons h
  obtain ⟨_, _, rfl, h4, h⟩ := fitsL_cons h
  obtain ⟨_, _, rfl, h5, h⟩ := fitsL_cons h
  obtain ⟨_, _, rfl, h6, h⟩ := fitsL_cons h
  obtain ⟨_, _, rfl, h7, h⟩ := fitsL_cons h
  obtain ⟨_, _, rfl, h8, h⟩ := fitsL_cons h
  obtain rfl := fitsL_nil h
  obtain ⟨s, rfl, k0⟩ := fits_str h0
  obtain ⟨b1, rfl⟩ := fits_bool h1
  obtain ⟨n2, rfl, k2⟩ := fits_int h2
  obtain ⟨b3, rfl⟩ := fits_bool h3
  obtain ⟨n4, rfl, k4⟩ := fits_int h4
  obtain ⟨ws, rfl, k5⟩ := fits_list (fun _ => want_of) h5
  obtain ⟨rs, rfl, k6⟩ := fits_list (fun _ => run_of) h6
  obtain ⟨as, rfl, k7⟩ := fits_list (fun _ => ask_of) h7
  obtain ⟨gs, rfl, k8⟩ := fits_list (fun _ => ask_of) h8
  exact ⟨⟨s, b1, n2, b3, n4, ws, rs, as, gs⟩, rfl, k0, k2, k4, k5, k6, k7, k8⟩

theorem parcel_of {c : List AV} (h : FitsL shParcel c) : ∃ p : Parcel, c = p.c .bor ∧ p.wf := by
  obtain ⟨_, _, rfl, h0, h⟩ := fitsL_cons h
  obtain ⟨_, _, rfl, h1, h⟩ := fitsL_cons h
  obtain ⟨_, _, rfl, h2, h⟩ := fitsL_cons h
  obtain ⟨_, _, rfl, h3, h⟩ := fitsL_cons h
  obtain ⟨_, _, rfl, h4, h⟩ := fitsL_cons h
  obtain ⟨_, _, rfl, h5, h⟩ := fitsL_cons h
  obtain ⟨_, _, rfl, h6, h⟩ := fitsL_cons h
  obtain rfl := fitsL_nil h
  obtain ⟨n0, rfl, k0⟩ := fits_int h0
  obtain ⟨s, rfl, k1⟩ := fits_str h1
  obtain ⟨n2, rfl, k2⟩ := fits_int h2
  obtain ⟨ws, rfl, k3⟩ := fits_list (fun _ => want_of) h3
  obtain ⟨t, rfl, k4⟩ := fits_str h4
  obtain ⟨u, rfl, k5⟩ := fits_str h5
  obtain ⟨n6, rfl, k6⟩ := fits_int h6
  exact ⟨⟨n0, s, n2, ws, t, u, n6⟩, rfl, k0, k1, k2, k3, k4, k5, k6⟩

theorem place_of {c : List AV} (h : FitsL shPlace c) : ∃ p : Place, c = p.c .bor ∧ p.wf := by
  obtain ⟨_, _, rfl, h0, h⟩ := fitsL_cons h
  obtain ⟨_, _, rfl, h1, h⟩ := fitsL_cons h
  obtain ⟨_, _, rfl, h2, h⟩ := fitsL_cons h
  obtain rfl := fitsL_nil h
  obtain ⟨s, rfl, k0⟩ := fits_str h0
  obtain ⟨n1, rfl, k1⟩ := fits_int h1
  obtain ⟨ws, rfl, k2⟩ := fits_list (fun _ => want_of) h2
  exact ⟨⟨s, n1, ws⟩, rfl, k0, k1, k2⟩

theorem land_of {c : List AV} (h : FitsL shLand c) : ∃ l : Land, c = l.c .bor .bor ∧ l.wf := by
  obtain ⟨_, _, rfl, h0, h⟩ := fitsL_cons h
  obtain ⟨_, _, rfl, h1, h⟩ := fitsL_cons h
  obtain ⟨_, _, rfl, h2, h⟩ := fitsL_cons h
  obtain rfl := fitsL_nil h
  obtain ⟨n0, rfl, k0⟩ := fits_int h0
  obtain ⟨gs, rfl, k1⟩ := fits_list (fun _ => grant_of) h1
  obtain ⟨ps, rfl, k2⟩ := fits_list (fun _ => place_of) h2
  exact ⟨⟨n0, gs, ps⟩, rfl, k0, k1, k2⟩

theorem str1_of {c : List AV} (h : FitsL [.str] c) : ∃ s : T, c = [.str s] ∧ s.size ≤ maxLen := by
  obtain ⟨_, _, rfl, h0, h⟩ := fitsL_cons h
  obtain rfl := fitsL_nil h
  obtain ⟨s, rfl, k0⟩ := fits_str h0
  exact ⟨s, rfl, k0⟩
theorem int1_of {c : List AV} (h : FitsL [.int .i64] c) : ∃ n, c = [.int .i64 n] ∧ I64 n := by
  obtain ⟨_, _, rfl, h0, h⟩ := fitsL_cons h
  obtain rfl := fitsL_nil h
  obtain ⟨n, rfl, k0⟩ := fits_int h0
  exact ⟨n, rfl, k0⟩

abbrev rowB (b : Int) : List AV := [.int .u8 b]
def Byte (n : Int) : Prop := 0 ≤ n ∧ n ≤ 255
theorem byte1_of {c : List AV} (h : FitsL [.int .u8] c) : ∃ n, c = rowB n ∧ Byte n := by
  obtain ⟨_, _, rfl, h0, h⟩ := fitsL_cons h
  obtain rfl := fitsL_nil h
  simp only [Fits] at h0
  obtain ⟨n, rfl, hw⟩ := h0
  refine ⟨n, rfl, ?_⟩
  simp [Lit.wf, IntKind.min, IntKind.max, IntKind.signed, IntKind.bits] at hw
  unfold Byte
  omega

theorem world_of {c : List AV} (h : FitsL shWorld c) : ∃ w : Wld, c = w.c .bor .bor ∧ w.wf := by
  unfold shWorld shLand at h
  obtain ⟨_, _, rfl, h0, h⟩ := fitsL_cons h
  obtain ⟨_, _, rfl, h1, h⟩ := fitsL_cons h
  obtain ⟨_, _, rfl, h2, h⟩ := fitsL_cons h
  obtain ⟨_, _, rfl, h3, h⟩ := fitsL_cons h
  obtain ⟨_, _, rfl, h4, h⟩ := fitsL_cons h
  obtain rfl := fitsL_nil h
  obtain ⟨n0, rfl, k0⟩ := fits_int h0
  obtain ⟨gs, rfl, k1⟩ := fits_list (fun _ => grant_of) h1
  obtain ⟨ps, rfl, k2⟩ := fits_list (fun _ => place_of) h2
  obtain ⟨ms, rfl, k3⟩ := fits_list (fun _ => mate_of) h3
  obtain ⟨fs, rfl, k4⟩ := fits_list (fun _ => str1_of) h4
  exact ⟨⟨⟨n0, gs, ps⟩, ms, fs⟩, rfl, ⟨k0, k1, k2⟩, k3, k4⟩

theorem event_of {c : List AV} (h : FitsL shEvent c) : ∃ e : Event, c = e.c .bor ∧ e.wf := by
  obtain ⟨_, _, rfl, h0, h⟩ := fitsL_cons h
  obtain ⟨_, _, rfl, h1, h⟩ := fitsL_cons h
  obtain ⟨_, _, rfl, h2, h⟩ := fitsL_cons h
  obtain ⟨_, _, rfl, h3, h⟩ := fitsL_cons h
  obtain ⟨_, _, rfl, h4, h⟩ := fitsL_cons h
  obtain rfl := fitsL_nil h
  obtain ⟨n0, rfl, k0⟩ := fits_int h0
  obtain ⟨n1, rfl, k1⟩ := fits_int h1
  obtain ⟨n2, rfl, k2⟩ := fits_int h2
  obtain ⟨ws, rfl, k3⟩ := fits_list (fun _ => want_of) h3
  obtain ⟨rs, rfl, k4⟩ := fits_list (fun _ => int1_of) h4
  exact ⟨⟨n0, n1, n2, ws, rs⟩, rfl, k0, k1, k2, k3, k4⟩

theorem arg_of_slice {H : Type} {enc : TypeId × Value → H} {P : Program} {num : Nat → Option FuncId} {W : World} {r : Reach} {b0 base : Nat} {spare : Nat → Bool} {held : Bool} {t : TypeId} {v : Value} {d : DataW H} {ps : List MemPlace} {e : TypeId} (ht : P.underlying t = some (.slice e)) {k : Nat} {row : List Sh} (hs : shOf P k t = some [.sl row]) (hval : Value.okWide P W r b0 t v) (hd : DataW.Trod enc P W base spare held t v d ps) :
    ∃ c, Fits (.sl row) c ∧ ArgRel num W v c := by
  obtain ⟨xs, h1, h2, h3⟩ := arg_slice (num := num) ht hs hval hd
  exact ⟨_, by simp only [Fits]; exact ⟨xs, rfl, h2, h3⟩, h1⟩

theorem arg_bool {H : Type} {enc : TypeId × Value → H} {P : Program} {num : Nat → Option FuncId} {W : World} {r : Reach} {b0 base : Nat} {spare : Nat → Bool} {held : Bool} {t : TypeId} {v : Value} {d : DataW H} {ps : List MemPlace} (ht : P.underlying t = some .bool) (hval : Value.okWide P W r b0 t v) (hd : DataW.Trod enc P W base spare held t v d ps) : ∃ b, ArgRel num W v (.bool b) := by
  obtain ⟨b, rfl⟩ := okWide_bool ht hval
  exact ⟨b, .bool b⟩

/-- What a law promises, to the program's own call. -/
theorem tied_lim {P' : Program} {num : Nat → Option FuncId} {fz : List (Nat × Obj)} {p : CProg} (t : Tied P' num fz p) {k : Nat} {f : FuncId} {args : List AV} {r : AV × List (Option AO)} (hn : num k = some f) (h : p.lim k args [] = some r) : Contract P' num fz f args [] r.1 r.2 := by
  obtain ⟨d, hd⟩ := lim_ev.1 h
  exact t.call d k f args [] r.1 r.2 hn (hd d (Nat.le_refl _))
end Go.Proofs.Ytgpedkkhndljiaa

namespace Go.Proofs.Ytgpedkkhndljiaa
open Go
set_option linter.unusedSimpArgs false
set_option maxRecDepth 100000

theorem off_le {l : Int} {n : Nat} (h0 : 0 ≤ l) (hn : n ≤ maxLen) (h : 0 ≤ off l n) (hx : l ≤ 1048576) : off l n ≤ l ∧ n ≤ 1048576 := by
  have hm : maxLen = 9223372036854775807 := rfl
  by_cases h2 : IntKind.i64.wrap (l - n) < 0
  · rw [off_neg h2] at h; simp at h
  · rw [off_pos h2] at *
    rw [i64w (by omega) (by omega)] at *
    omega

theorem szWant_le {w : Want} {l : Int} (hw : w.wf) (h0 : 0 ≤ l) (hx : l ≤ 1048576) (h : 0 ≤ szWant w l) : szWant w l ≤ l := by
  unfold szWant offs offs offs at *
  split at h
  · simp at h
  · rename_i h1
    have k1 := off_le h0 hw.copy (by omega) hx
    rw [if_neg h1]
    split at h
    · simp at h
    · rename_i h2
      have k2 := off_le (l := off l w.copy.size) (by omega) hw.hold (by omega) (by omega)
      rw [if_neg h2]
      omega

theorem szRun_le {w : Run} {l : Int} (hw : w.wf) (h0 : 0 ≤ l) (hx : l ≤ 1048576) (h : 0 ≤ szRun w l) : szRun w l ≤ l := by
  unfold szRun at *
  split at h
  · simp at h
  · rename_i h1
    rw [if_neg h1]
    exact szWant_le hw.want h0 hx h

theorem szAsk_le {w : Ask} {l : Int} (hw : w.wf) (h0 : 0 ≤ l) (hx : l ≤ 1048576) (h : 0 ≤ szAsk w l) : szAsk w l ≤ l := by
  unfold szAsk offs offs offs at *
  split at h
  · simp at h
  · rename_i h1
    have k1 := off_le h0 hw.hold (by omega) hx
    rw [if_neg h1]
    split at h
    · simp at h
    · rename_i h2
      have k2 := off_le (l := off l w.hold.size) (by omega) hw.copy (by omega) (by omega)
      rw [if_neg h2]
      omega

theorem szWants_le {ws : List Want} {l : Int} (hw : ListWf Want.wf ws) (h0 : 0 ≤ l) (hx : l ≤ 1048576) (h : 0 ≤ szWants ws l) : szWants ws l ≤ l ∧ ws.length ≤ 1048576 := by
  have go : ∀ (ws : List Want) (l : Int), (∀ w ∈ ws, w.wf) → 0 ≤ l → l ≤ 1048576 → 0 ≤ szWantGo ws l → szWantGo ws l ≤ l := by
    intro ws
    induction ws with
    | nil => intro l _ _ _ _; exact Int.le_refl _
    | cons w r ih =>
      intro l hw h0 hx h
      simp only [szWantGo] at h ⊢
      split at h
      · simp at h
      · rename_i h1
        rw [if_neg h1]
        have k1 := szWant_le (hw w List.mem_cons_self) h0 hx (by omega)
        have := ih _ (fun x hx => hw x (List.mem_cons_of_mem _ hx)) (by omega) (by omega) h
        omega
  unfold szWants at *
  split at h
  · simp at h
  · rename_i h1
    have k1 := off_le h0 hw.len (by omega) hx
    rw [if_neg h1]
    have := go ws _ hw.all (by omega) (by omega) h
    omega

theorem szRuns_le {ws : List Run} {l : Int} (hw : ListWf Run.wf ws) (h0 : 0 ≤ l) (hx : l ≤ 1048576) (h : 0 ≤ szRuns ws l) : szRuns ws l ≤ l ∧ ws.length ≤ 1048576 := by
  have go : ∀ (ws : List Run) (l : Int), (∀ w ∈ ws, w.wf) → 0 ≤ l → l ≤ 1048576 → 0 ≤ szRunGo ws l → szRunGo ws l ≤ l := by
    intro ws
    induction ws with
    | nil => intro l _ _ _ _; exact Int.le_refl _
    | cons w r ih =>
      intro l hw h0 hx h
      simp only [szRunGo] at h ⊢
      split at h
      · simp at h
      · rename_i h1
        rw [if_neg h1]
        have k1 := szRun_le (hw w List.mem_cons_self) h0 hx (by omega)
        have := ih _ (fun x hx => hw x (List.mem_cons_of_mem _ hx)) (by omega) (by omega) h
        omega
  unfold szRuns at *
  split at h
  · simp at h
  · rename_i h1
    have k1 := off_le h0 hw.len (by omega) hx
    rw [if_neg h1]
    have := go ws _ hw.all (by omega) (by omega) h
    omega

theorem szAsks_le {ws : List Ask} {l : Int} (hw : ListWf Ask.wf ws) (h0 : 0 ≤ l) (hx : l ≤ 1048576) (h : 0 ≤ szAsks ws l) : szAsks ws l ≤ l ∧ ws.length ≤ 1048576 := by
  have go : ∀ (ws : List Ask) (l : Int), (∀ w ∈ ws, w.wf) → 0 ≤ l → l ≤ 1048576 → 0 ≤ szAskGo ws l → szAskGo ws l ≤ l := by
    intro ws
    induction ws with
    | nil => intro l _ _ _ _; exact Int.le_refl _
    | cons w r ih =>
      intro l hw h0 hx h
      simp only [szAskGo] at h ⊢
      split at h
      · simp at h
      · rename_i h1
        rw [if_neg h1]
        have k1 := szAsk_le (hw w List.mem_cons_self) h0 hx (by omega)
        have := ih _ (fun x hx => hw x (List.mem_cons_of_mem _ hx)) (by omega) (by omega) h
        omega
  unfold szAsks at *
  split at h
  · simp at h
  · rename_i h1
    have k1 := off_le h0 hw.len (by omega) hx
    rw [if_neg h1]
    have := go ws _ hw.all (by omega) (by omega) h
    omega

/-- One part after another. -/
def szThen (a : Int) (f : Int → Int) : Int := if a < 0 then -1 else f a
def szMate (m : Mate) (l : Int) : Int := szThen (off l m.name.size) fun l => szThen (szWants m.wants l) fun l => szThen (szRuns m.runs l) fun l => szThen (szAsks m.asks l) fun l => szAsks m.gives l

theorem szThen_neg {a : Int} {f : Int → Int} (h : a < 0) : szThen a f = -1 := if_pos h
theorem szThen_pos {a : Int} {f : Int → Int} (h : 0 ≤ a) : szThen a f = f a := if_neg (by omega)

end Go.Proofs.Ytgpedkkhndljiaa

namespace Go.Proofs.Ytgpedkkhndljiaa
open Go
set_option linter.unusedSimpArgs false
set_option maxRecDepth 100000

def markWant (k : Int) : Want := ⟨markText (k), up k, markText (up (up k)), up (up (up k)), up (up (up (up k))), up (up (up (up (up k)))), up (up (up (up (up (up k)))))⟩
def marksWant (n : Nat) (k : Int) : List Want := (List.range n).map fun i => markWant (it up7 i k)

def headMkWant (ws : List Want) (k : Int) (i : Nat) : St := hd [(0, .ref 0), (1, .int .i64 (it up7 i k)), (5, .int .i64 i)] [.arr 7 (mixU Want.c ws (marksWant ws.length k) i)] 1

theorem law71 (ws : List Want) (k : Int) (h0 : 0 ≤ k) (hl : ws.length ≤ 1048576) (hk : k ≤ 10000000000000) : F 71 [.ref 0, .int .i64 k] [.arr 7 (ws.map Want.c)] = some (.int .i64 (k + 7 * ws.length), [some (.arr 7 ((marksWant ws.length k).map Want.c))]) := by
  refine F_run fn71 rfl ?_
  have hend := it_up7 h0 hk hl
  simp [c71]
  refine (loop_list ws (fun i (_ : Unit) => headMkWant ws k i) (fun _ _ => True) (fun _ _ _ => (.int .i64 (it up7 ws.length k), [some (.arr 7 ((marksWant ws.length k).map Want.c))])) (fun acc Y _ => ?_) (fun i a r acc Y ha hi hr _ hY => ?_) () ?_ trivial ?_).trans ?_
  · simp [headMkWant, c71b0, mixU_all, marksWant]
  · have hw : up (i : Int) = (i : Int) + 1 := up_is (by omega) (by omega)
    have hmx : ∀ j, j ≤ 11 → it up j (it up7 i k) ≤ 100000000000000 := it_up_le7 h0 hk (by omega)
    have hm0 : it up7 i k ≤ 100000000000000 := hmx 0 (by omega)
    have hm2 : up (up (it up7 i k)) ≤ 100000000000000 := hmx 2 (by omega)
    have hms : (marksWant ws.length k)[i]? = some (markWant (it up7 i k)) := by simp [marksWant, hi]
    have hln := mixU_len Want.c (ws := ws) (ms := marksWant ws.length k) (i := i) (by simp [marksWant]) (by omega)
    have hg := mixU_at Want.c (ms := marksWant ws.length k) ha (by simp [marksWant]) (by rw [hln]; exact hi)
    have hs := mixU_set Want.c (ws := ws) hms (by simp [marksWant])
    simp only [Want.c] at hg
    simp [Want.c, markWant] at hs
    simp [headMkWant, c71b0, hi, hln, hg, up_fold, law96, hm0, hm2]
    rw [hY () _ trivial]
    simp [headMkWant, hw, hs, it, up7]
  · simp [headMkWant, mixU_zero, it]
  · unfold big; omega
  · rw [hend]

def headHlWant (m : Md) (ws : List Want) (k : Int) (i : Nat) : St := hd [(0, .sl m 7 (ws.map Want.c)), (1, .int .i64 (it up7 i k)), (5, .int .i64 i)] [] 0

theorem law127 (n : Nat) (k : Int) (h0 : 0 ≤ k) (hl : n ≤ 1048576) (hk : k ≤ 10000000000000) : F 127 [.sl .bor 7 ((marksWant n k).map Want.c), .int .i64 k] [] = some (.int .i64 (k + 7 * n), []) := by
  refine F_run fn127 rfl ?_
  have hend := it_up7 h0 hk hl
  have hln : (marksWant n k).length = n := by simp [marksWant]
  simp [c127]
  refine (loop_list (marksWant n k) (fun i (_ : Unit) => headHlWant .bor (marksWant n k) k i) (fun _ _ => True) (fun _ _ _ => (.int .i64 (it up7 n k), [])) (fun acc Y _ => ?_) (fun i a r acc Y ha hi hr _ hY => ?_) () ?_ trivial ?_).trans ?_
  · rw [hln]
    simp [headHlWant, c127b0, hln]
  · rw [hln] at hi
    have hw : up (i : Int) = (i : Int) + 1 := up_is (by omega) (by omega)
    have hmx : ∀ j, j ≤ 11 → it up j (it up7 i k) ≤ 100000000000000 := it_up_le7 h0 hk (by omega)
    have hm0 : it up7 i k ≤ 100000000000000 := hmx 0 (by omega)
    have hm2 : up (up (it up7 i k)) ≤ 100000000000000 := hmx 2 (by omega)
    obtain ⟨hi2, hg⟩ := List.getElem?_eq_some_iff.1 ha
    have hms : (marksWant n k)[i]? = some (markWant (it up7 i k)) := by simp [marksWant, hi]
    rw [ha] at hms
    obtain rfl := Option.some.inj hms
    simp [headHlWant, c127b0, hi, hln, hg, up_fold, law96, markWant, hm0, hm2]
    rw [hY () _ trivial]
    simp [headHlWant, hw, it, up7]
  · simp [headHlWant, it]
  · rw [hln]; unfold big; omega
  · rw [hend]


def markAsk (k : Int) : Ask := ⟨markText (k), markText (up k), up (up k), up (up (up k))⟩
def marksAsk (n : Nat) (k : Int) : List Ask := (List.range n).map fun i => markAsk (it up4 i k)

def headMkAsk (ws : List Ask) (k : Int) (i : Nat) : St := hd [(0, .ref 0), (1, .int .i64 (it up4 i k)), (5, .int .i64 i)] [.arr 4 (mixU Ask.c ws (marksAsk ws.length k) i)] 1

def headHlAsk (m : Md) (ws : List Ask) (k : Int) (i : Nat) : St := hd [(0, .sl m 4 (ws.map Ask.c)), (1, .int .i64 (it up4 i k)), (5, .int .i64 i)] [] 0

def markMate (m : Mate) (k : Int) : Mate :=
  { m with
    wants := marksWant m.wants.length k
    runs := marksRun m.runs.length (k + 7 * m.wants.length)
    asks := marksAsk m.asks.length (k + 7 * m.wants.length + 11 * m.runs.length)
    gives := marksAsk m.gives.length (k + 7 * m.wants.length + 11 * m.runs.length + 4 * m.asks.length) }
def markMateK (m : Mate) (k : Int) : Int := k + 7 * m.wants.length + 11 * m.runs.length + 4 * m.asks.length + 4 * m.gives.length

/-- A mate's cells, its lists being the arrays from n on. -/
def Mate.refs (n : Nat) (x : Mate) : List AV := [.str x.name, .bool x.up, .int .i64 x.clock, .bool x.known, .int .i64 x.seen, .ref n, .ref (n + 1), .ref (n + 2), .ref (n + 3)]
def Mate.arrs (x : Mate) : List AO := [.arr 7 (x.wants.map Want.c), .arr 11 (x.runs.map Run.c), .arr 4 (x.asks.map Ask.c), .arr 4 (x.gives.map Ask.c)]

theorem markMateK_pos {m : Mate} {k : Int} (h : 0 ≤ k) : ¬ (markMateK m k < 0) := by unfold markMateK; omega
end Go.Proofs.Ytgpedkkhndljiaa

namespace Go.Proofs.Ytgpedkkhndljiaa
open Go
set_option linter.unusedSimpArgs false
set_option maxRecDepth 100000

def grantOk (t : Int) (g : Grant) : Bool := isHold g.hold && (isName g.berth && (isName g.copy && (inR g.at_ 0 1000000 && inR g.til 0 (IntKind.i64.wrap (t + 32)))))
def ascG (pre : List Grant) (g : Grant) : Bool :=
  match pre.getLast? with
  | none => true
  | some p => sLt p.hold g.hold
def grantsGo (t : Int) (pre : List Grant) : List Grant → Bool
  | [] => true
  | g :: r => grantOk t g && (ascG pre g && grantsGo t (pre ++ [g]) r)
def ascP (pre : List Place) (p : Place) : Bool :=
  match pre.getLast? with
  | none => true
  | some q => sLt q.berth p.berth
def heldIn (pre : List Place) (k : T) : Bool := heldB (pre.flatMap Place.wants) k
def freshP (pre : List Place) (p : Place) : Bool := p.wants.all fun w => sEq w.hold ⟨#[]⟩ || !heldIn pre w.hold
def placeOk (p : Place) : Bool := isName p.berth && (inR p.seen 1 1000000 && wantsOk p.wants)
def placesGo (pre : List Place) : List Place → Bool
  | [] => true
  | p :: r => placeOk p && (ascP pre p && (freshP pre p && placesGo (pre ++ [p]) r))
def landOk (l : Land) : Bool :=
  inR l.time 0 2000000 && (decide (l.time.tmod 2 = 0) && (decide (l.grants.length ≤ 40) && (decide (l.places.length ≤ 4) && (grantsGo l.time [] l.grants && placesGo [] l.places))))

structure Place.small (p : Place) : Prop where
  wants : p.wants.length ≤ 1048576
structure Land.small (l : Land) : Prop where
  grants : l.grants.length ≤ 1048576
  places : l.places.length ≤ 1048576
  each : ∀ p ∈ l.places, p.small

/-- In wants that are ok no hold comes twice. -/
theorem wantsGo_fresh : ∀ (r pre : List Want), wantsGo pre r = true → ∀ j w, r[j]? = some w → freshW (pre ++ r.take j) w = true
  | [], _, _, j, w, h => by simp at h
  | a :: r, pre, hg, j, w, h => by
    simp only [wantsGo, Bool.and_eq_true] at hg
    cases j with
    | zero => simp at h; subst h; simpa using hg.2.2.1
    | succ j =>
      have := wantsGo_fresh r (pre ++ [a]) hg.2.2.2 j w (by simpa using h)
      simpa using this

theorem wantsOk_fresh {ws : List Want} (h : wantsOk ws = true) {j : Nat} {w : Want} (hw : ws[j]? = some w) (hne : sEq w.hold ⟨#[]⟩ = false) : heldB (ws.take j) w.hold = false := by
  unfold wantsOk at h
  rw [Bool.and_eq_true] at h
  have := wantsGo_fresh ws [] h.2 j w hw
  simp only [List.nil_append, freshW, hne, Bool.false_or, Bool.not_eq_true'] at this
  exact this

theorem heldB_append (a b : List Want) (k : T) : heldB (a ++ b) k = (heldB a k || heldB b k) := by simp [heldB]
theorem heldMap_append (a b : List Want) : heldMap (a ++ b) = b.foldl (fun m w => mapPut w.hold (.bool true) m) (heldMap a) := by simp [heldMap]

def head23g (l : Land) (m : Md) (i : Nat) : St := hd [(1, .ptr 0 0 0), (33, .sl .bor 5 (l.grants.map Grant.c)), (34, .int .i64 l.grants.length), (35, .int .i64 i)] [.box (l.c .bor m)] 0
def head23p (l : Land) (m : Md) (i : Nat) : St := hd [(1, .ptr 0 0 0), (5, .mapr 1), (90, .sl .bor 3 (l.places.map (Place.c m))), (91, .int .i64 l.places.length), (92, .int .i64 i)]
  [.box (l.c .bor m), .map false (heldMap ((l.places.take i).flatMap Place.wants))] 0
def head23w (l : Land) (m : Md) (i : Nat) (ws : List Want) (j : Nat) : St := hd [(1, .ptr 0 0 0), (5, .mapr 1), (90, .sl .bor 3 (l.places.map (Place.c m))), (91, .int .i64 l.places.length), (92, .int .i64 i), (130, .sl .bor 7 (ws.map Want.c)), (131, .int .i64 ws.length), (132, .int .i64 j)]
  [.box (l.c .bor m), .map false (heldMap ((l.places.take i).flatMap Place.wants ++ ws.take j))] 0

theorem law23 (l : Land) (m : Md) (hl : l.small) : F 23 [.agg (l.c .bor m)] [] = some (.bool (landOk l), []) := by
  refine F_run fn23 rfl ?_
  obtain ⟨s1, s2, s3⟩ := hl
  simp [c23, landOk]
  cases q1 : inR l.time 0 2000000 <;> simp
  by_cases q2 : l.time.tmod 2 = 0
  case neg => simp [q2]
  simp [q2]
  by_cases q3 : l.grants.length ≤ 40
  case neg =>
    have q3' : ¬ ((l.grants.length : Int) ≤ 40) := by omega
    have q32 : 40 < (l.grants.length : Int) := by omega
    simp [q3, q3', q32]
  have q3' : (l.grants.length : Int) ≤ 40 := by omega
  have q32 : ¬ (40 < (l.grants.length : Int)) := by omega
  simp [q3, q3', q32]
  by_cases q4 : l.places.length ≤ 4
  case neg =>
    have q4' : ¬ ((l.places.length : Int) ≤ 4) := by omega
    have q42 : 4 < (l.places.length : Int) := by omega
    simp [q4, q4', q42]
  have q4' : (l.places.length : Int) ≤ 4 := by omega
  have q42 : ¬ (4 < (l.places.length : Int)) := by omega
  simp [q4, q4', q42]
  refine (loop_list l.grants (fun i (_ : Unit) => head23g l m i) (fun _ _ => True) (fun i r _ => (.bool (grantsGo l.time (l.grants.take i) r && placesGo [] l.places), [])) (fun acc Y _ => ?_) (fun i a r acc Y ha hi hr _ hY => ?_) () ?_ trivial ?_).trans ?_
  · simp [head23g, c23b0, grantsGo]
    refine (loop_list l.places (fun i (_ : Unit) => head23p l m i) (fun _ _ => True) (fun i r _ => (.bool (placesGo (l.places.take i) r), [])) (fun acc Y _ => ?_) (fun i a r acc Y ha hi hr _ hY => ?_) () ?_ trivial ?_).trans ?_
    · simp [head23p, c23b2, placesGo]
    · have hw : IntKind.i64.wrap ((i : Int) + 1) = (i : Int) + 1 := i64w (by omega) (by omega)
      obtain ⟨_, hg⟩ := List.getElem?_eq_some_iff.1 ha
      have hs := take_snoc ha
      have hws := (s3 a (List.mem_of_getElem? ha)).wants
      have w6 := law6 a.wants (by unfold big; omega)
      have hY' : ∀ s', s'.norm [1, 5, 90, 91, 92] = head23p l m (i + 1) → fin [CRes.tmp 2] 0 (Y s') = some (.bool (placesGo (l.places.take i ++ [a]) r), []) := fun s' h => by rw [← hs]; exact hY () s' trivial h
      have hh : heldMap ((l.places.take (i + 1)).flatMap Place.wants) = heldMap ((l.places.take i).flatMap Place.wants ++ a.wants) := by rw [hs]; simp
      have inner : wantsOk a.wants = true → ∀ (fs : List Fr) (st : St), st.norm [1, 5, 90, 91, 92, 130, 131, 132] = head23w l m i a.wants 0 →
          fin [CRes.tmp 2] 0 (X F (.code (.loop [1, 5, 90, 91, 92, 130, 131, 132] c23b1) :: .blk 4 :: .blk 3 :: .code (.region [⟨some 149, .bin .add (.tmp 92) (.const (.int .i64 1)), none⟩, ⟨some 92, .mov (.tmp 149), none⟩] [1, 5, 90, 91, 92]) :: .back Y :: fs) (.normal, st)) = some (.bool (freshP (l.places.take i) a && placesGo (l.places.take i ++ [a]) r), []) := by
        intro hok fs st hst
        refine (loop_list a.wants (fun j (_ : Unit) => head23w l m i a.wants j) (fun _ _ => True) (fun _ t _ => (.bool ((t.all fun w => sEq w.hold ⟨#[]⟩ || !heldIn (l.places.take i) w.hold) && placesGo (l.places.take i ++ [a]) r), [])) (fun acc Z _ => ?_) (fun j b t acc Z hb hj ht _ hZ => ?_) () hst trivial ?_).trans rfl
        · simp [head23w, c23b1]
          exact hY' _ (by simp [head23p, hw, hh])
        · have hwj : IntKind.i64.wrap ((j : Int) + 1) = (j : Int) + 1 := i64w (by omega) (by omega)
          obtain ⟨_, hgb⟩ := List.getElem?_eq_some_iff.1 hb
          have hh2 : heldMap ((l.places.take i).flatMap Place.wants ++ a.wants.take (j + 1)) = mapPut b.hold (.bool true) (heldMap ((l.places.take i).flatMap Place.wants ++ a.wants.take j)) := by
            rw [take_snoc hb, ← List.append_assoc, heldMap_snoc]
          have hZ' : ∀ s', s'.norm [1, 5, 90, 91, 92, 130, 131, 132] = head23w l m i a.wants (j + 1) → fin [CRes.tmp 2] 0 (Z s') = some (.bool ((t.all fun w => sEq w.hold ⟨#[]⟩ || !heldIn (l.places.take i) w.hold) && placesGo (l.places.take i ++ [a]) r), []) := fun s' h => hZ () s' trivial h
          simp only [List.all_cons]
          simp [head23w, c23b1, hj, hgb]
          cases q5 : sEq b.hold ⟨#[]⟩ <;> simp
          · have hf := wantsOk_fresh hok hb q5
            have e1 : heldB ((l.places.take i).flatMap Place.wants ++ a.wants.take j) b.hold = heldIn (l.places.take i) b.hold := by rw [heldB_append, hf, Bool.or_false]; rfl
            rw [e1]
            cases q6 : heldIn (l.places.take i) b.hold <;> simp
            exact (hZ' _ (by simp [head23w, hwj, hh2])).trans (by simp)
          · exact (hZ' _ (by simp [head23w, hwj, hh2])).trans (by simp)
        · unfold big; omega
      by_cases hz : i = 0
      · have hp : ¬ 0 < i := by omega
        have ht : l.places.take i = [] := by rw [hz]; rfl
        simp [head23p, c23b2, placesGo, hg, hi, ascP, hp, ht, placeOk, w6]
        cases q7 : isName a.berth <;> simp
        cases q8 : inR a.seen 1 1000000 <;> simp
        cases q9 : wantsOk a.wants <;> simp
        exact (inner q9 _ _ (by simp [head23w, ht])).trans (by simp [ht])
      · obtain ⟨j, hp, hw1, hj, hlast⟩ := prev hi (by omega) hz
        simp [head23p, c23b2, placesGo, hg, hi, ascP, hp, hw1, hj, hlast, placeOk, w6]
        cases q7 : isName a.berth <;> simp
        cases q10 : sLt l.places[j].berth a.berth <;> simp
        cases q8 : inR a.seen 1 1000000 <;> simp
        cases q9 : wantsOk a.wants <;> simp
        exact (inner q9 _ _ (by simp [head23w])).trans (by simp)
    · simp [head23p, heldMap]
    · unfold big; omega
    · simp
  · have hw : IntKind.i64.wrap ((i : Int) + 1) = (i : Int) + 1 := i64w (by omega) (by omega)
    obtain ⟨_, hg⟩ := List.getElem?_eq_some_iff.1 ha
    have hs := take_snoc ha
    have hY' : ∀ s', s'.norm [1, 33, 34, 35] = head23g l m (i + 1) → fin [CRes.tmp 2] 0 (Y s') = some (.bool (grantsGo l.time (l.grants.take i ++ [a]) r && placesGo [] l.places), []) := fun s' h => by rw [← hs]; exact hY () s' trivial h
    by_cases hz : i = 0
    · have hp : ¬ 0 < i := by omega
      have ht : l.grants.take i = [] := by rw [hz]; rfl
      simp [head23g, c23b0, grantsGo, hg, hi, ascG, hp, ht, grantOk]
      cases r1 : isHold a.hold <;> simp
      cases r2 : isName a.berth <;> simp
      cases r3 : isName a.copy <;> simp
      cases r4 : inR a.at_ 0 1000000 <;> simp
      cases r5 : inR a.til 0 (IntKind.i64.wrap (l.time + 32)) <;> simp
      exact (hY' _ (by simp [head23g, hw])).trans (by simp [ht])
    · obtain ⟨j, hp, hw1, hj, hlast⟩ := prev hi (by omega) hz
      simp [head23g, c23b0, grantsGo, hg, hi, ascG, hp, hw1, hj, hlast, grantOk]
      cases r1 : isHold a.hold <;> simp
      cases r2 : isName a.berth <;> simp
      cases r3 : isName a.copy <;> simp
      cases r6 : sLt l.grants[j].hold a.hold <;> simp
      cases r4 : inR a.at_ 0 1000000 <;> simp
      cases r5 : inR a.til 0 (IntKind.i64.wrap (l.time + 32)) <;> simp
      exact (hY' _ (by simp [head23g, hw])).trans (by simp)
  · simp [head23g]
  · unfold big; omega
  · simp

def cw (w x : Want) : Bool := !sEq w.hold ⟨#[]⟩ && sEq w.hold x.hold
theorem freshP_any (pre : List Place) (p : Place) : (!(pre.any fun q => p.wants.any fun w => q.wants.any (cw w))) = freshP pre p := by
  rw [Bool.eq_iff_iff, Bool.not_eq_true', List.any_eq_false]
  unfold freshP
  rw [List.all_eq_true]
  constructor
  · intro h w hw
    cases h1 : sEq w.hold ⟨#[]⟩
    · simp only [Bool.false_or, Bool.not_eq_true', heldIn, heldB, List.any_eq_false, List.mem_flatMap]
      rintro x ⟨q, hq, hx⟩ h2
      apply h q hq
      rw [List.any_eq_true]
      refine ⟨w, hw, ?_⟩
      rw [List.any_eq_true]
      exact ⟨x, hx, by simp [cw, h1]; rw [sEq_comm]; exact h2⟩
    · rfl
  · intro h q hq h2
    obtain ⟨w, hw, h3⟩ := List.any_eq_true.1 h2
    obtain ⟨x, hx, h4⟩ := List.any_eq_true.1 h3
    simp only [cw, Bool.and_eq_true, Bool.not_eq_true'] at h4
    have h5 := h w hw
    rw [h4.1] at h5
    simp only [Bool.false_or, Bool.not_eq_true', heldIn, heldB, List.any_eq_false, List.mem_flatMap] at h5
    exact h5 x ⟨q, hq, hx⟩ (by rw [sEq_comm]; exact h4.2)

def head99 (ps : List Place) (m : Md) (i : Nat) : St := hd [(0, .sl .bor 3 (ps.map (Place.c m))), (3, .int .i64 i)] [] 0
def head99k (ps : List Place) (m : Md) (i : Nat) (p : Place) (k : Nat) : St := hd [(0, .sl .bor 3 (ps.map (Place.c m))), (3, .int .i64 i), (4, .ptr 0 0 0), (5, .int .i64 k)] [.box (p.c .bor)] 0
def head99j (ps : List Place) (m : Md) (i : Nat) (p : Place) (k j : Nat) : St := hd [(0, .sl .bor 3 (ps.map (Place.c m))), (3, .int .i64 i), (4, .ptr 0 0 0), (5, .int .i64 k), (6, .int .i64 j)] [.box (p.c .bor)] 0
def head99n (ps : List Place) (m : Md) (i : Nat) (p : Place) (k j n : Nat) : St := hd [(0, .sl .bor 3 (ps.map (Place.c m))), (3, .int .i64 i), (4, .ptr 0 0 0), (5, .int .i64 k), (6, .int .i64 j), (7, .int .i64 n)] [.box (p.c .bor)] 0

theorem law99 (ps : List Place) (m : Md) (hl : ps.length ≤ 1048576) (he : ∀ p ∈ ps, p.small) : F 99 [.sl .bor 3 (ps.map (Place.c m))] [] = some (.bool (decide (ps.length ≤ 4) && placesGo [] ps), []) := by
  refine F_run fn99 rfl ?_
  simp [c99]
  by_cases h4 : ps.length ≤ 4
  case neg =>
    have h4' : 4 < (ps.length : Int) := by omega
    simp [h4, h4']
  have h4' : ¬ (4 < (ps.length : Int)) := by omega
  simp [h4, h4']
  refine (loop_list ps (fun i (_ : Unit) => head99 ps m i) (fun _ _ => True) (fun i r _ => (.bool (placesGo (ps.take i) r), [])) (fun acc Y _ => ?_) (fun i a r acc Y ha hi hr _ hY => ?_) () ?_ trivial ?_).trans rfl
  · simp [head99, c99b3, placesGo]
  · have hw : IntKind.i64.wrap ((i : Int) + 1) = (i : Int) + 1 := i64w (by omega) (by omega)
    obtain ⟨_, hg⟩ := List.getElem?_eq_some_iff.1 ha
    have hs := take_snoc ha
    have hws := (he a (List.mem_of_getElem? ha)).wants
    have w7 := law7 a.wants (by unfold big; omega)
    have hY' : ∀ s', s'.norm [0, 3] = head99 ps m (i + 1) → fin [CRes.tmp 2] 0 (Y s') = some (.bool (placesGo (ps.take i ++ [a]) r), []) := fun s' h => by rw [← hs]; exact hY () s' trivial h
    have hcase : (¬ 0 < i ∧ (ps.take i).getLast? = none) ∨ ∃ j : Nat, 0 < i ∧ IntKind.i64.wrap ((i : Int) - 1) = (j : Int) ∧ ∃ h : j < ps.length, (ps.take i).getLast? = some (ps[j]'h) := by
      by_cases hz : i = 0
      · left; exact ⟨by omega, by rw [hz]; rfl⟩
      · right; exact prev hi (by omega) hz
    rcases hcase with ⟨hp, hlast⟩ | ⟨j, hp, hw1, hj, hlast⟩
    · simp [head99, c99b3, placesGo, hg, hi, ascP, hp, hlast, placeOk, w7]
      cases q7 : isName a.berth <;> simp
      cases q8 : inR a.seen 1 1000000 <;> simp
      cases q9 : wantsOk a.wants <;> simp
      rw [← freshP_any]
      refine (loop_list (ps.take i) (fun k (_ : Unit) => head99k ps m i a k) (fun _ _ => True) (fun _ t _ => (.bool (!(t.any fun q => a.wants.any fun w => q.wants.any (cw w)) && placesGo (ps.take i ++ [a]) r), [])) (fun acc Z _ => ?_) (fun k b t acc Z hb hk ht _ hZ => ?_) () ?_ trivial ?_).trans rfl
      · have hlen : (ps.take i).length = i := by simp; omega
        rw [hlen]
        simp [head99k, c99b2]
        exact hY' _ (by simp [head99, hw])
      · have hk2 : k < i := by simp at hk; omega
        have hwk : IntKind.i64.wrap ((k : Int) + 1) = (k : Int) + 1 := i64w (by omega) (by omega)
        have hb2 : ps[k]? = some b := by rw [List.getElem?_take, if_pos hk2] at hb; exact hb
        obtain ⟨hkl, hgb⟩ := List.getElem?_eq_some_iff.1 hb2
        have hbw := (he b (List.mem_of_getElem? hb2)).wants
        have hZ' : ∀ s', s'.norm [0, 3, 4, 5] = head99k ps m i a (k + 1) → fin [CRes.tmp 2] 0 (Z s') = some (.bool (!(t.any fun q => a.wants.any fun w => q.wants.any (cw w)) && placesGo (ps.take i ++ [a]) r), []) := fun s' h => hZ () s' trivial h
        simp only [List.any_cons, Bool.not_or]
        simp [head99k, c99b2, hk2]
        refine (loop_list a.wants (fun j (_ : Unit) => head99j ps m i a k j) (fun _ _ => True) (fun _ u _ => (.bool (!(u.any fun w => b.wants.any (cw w)) && (!(t.any fun q => a.wants.any fun w => q.wants.any (cw w)) && placesGo (ps.take i ++ [a]) r)), [])) (fun acc V _ => ?_) (fun jj w u acc V hv hjj hu _ hV => ?_) () ?_ trivial ?_).trans (by simp [Bool.and_assoc])
        · simp [head99j, c99b1]
          exact (hZ' _ (by simp [head99k, hwk])).trans (by simp)
        · have hwj : IntKind.i64.wrap ((jj : Int) + 1) = (jj : Int) + 1 := i64w (by omega) (by omega)
          obtain ⟨_, hgw⟩ := List.getElem?_eq_some_iff.1 hv
          have hV' : ∀ s', s'.norm [0, 3, 4, 5, 6] = head99j ps m i a k (jj + 1) → fin [CRes.tmp 2] 0 (V s') = some (.bool (!(u.any fun w => b.wants.any (cw w)) && (!(t.any fun q => a.wants.any fun w => q.wants.any (cw w)) && placesGo (ps.take i ++ [a]) r)), []) := fun s' h => hV () s' trivial h
          simp only [List.any_cons, Bool.not_or]
          simp [head99j, c99b1, hjj]
          refine (loop_list b.wants (fun n (_ : Unit) => head99n ps m i a k jj n) (fun _ _ => True) (fun _ x _ => (.bool (!(x.any (cw w)) && (!(u.any fun w => b.wants.any (cw w)) && (!(t.any fun q => a.wants.any fun w => q.wants.any (cw w)) && placesGo (ps.take i ++ [a]) r))), [])) (fun acc U _ => ?_) (fun n y x acc U hy hn hx _ hU => ?_) () ?_ trivial ?_).trans (by simp [Bool.and_assoc])
          · simp [head99n, c99b0, hkl, hgb]
            exact (hV' _ (by simp [head99j, hwj])).trans (by simp)
          · have hwn : IntKind.i64.wrap ((n : Int) + 1) = (n : Int) + 1 := i64w (by omega) (by omega)
            obtain ⟨_, hgy⟩ := List.getElem?_eq_some_iff.1 hy
            simp only [List.any_cons, Bool.not_or]
            simp [head99n, c99b0, hkl, hgb, hn, hgy, hjj, hgw, cw]
            cases e1 : sEq w.hold ⟨#[]⟩ <;> cases e2 : sEq w.hold y.hold <;> simp
            all_goals exact (hU () _ trivial (by simp [head99n, hwn])).trans (by simp [cw, e1])
          · simp [head99n]
          · unfold big; omega
        · simp [head99j]
        · unfold big; omega
      · simp [head99k]
      · simp; unfold big; omega
    · simp [head99, c99b3, placesGo, hg, hi, ascP, hp, hw1, hj, hlast, placeOk, w7]
      cases q7 : isName a.berth <;> simp
      cases q8 : inR a.seen 1 1000000 <;> simp
      cases q9 : wantsOk a.wants <;> simp
      cases q10 : sLt ps[j].berth a.berth <;> simp
      rw [← freshP_any]
      refine (loop_list (ps.take i) (fun k (_ : Unit) => head99k ps m i a k) (fun _ _ => True) (fun _ t _ => (.bool (!(t.any fun q => a.wants.any fun w => q.wants.any (cw w)) && placesGo (ps.take i ++ [a]) r), [])) (fun acc Z _ => ?_) (fun k b t acc Z hb hk ht _ hZ => ?_) () ?_ trivial ?_).trans rfl
      · have hlen : (ps.take i).length = i := by simp; omega
        rw [hlen]
        simp [head99k, c99b2]
        exact hY' _ (by simp [head99, hw])
      · have hk2 : k < i := by simp at hk; omega
        have hwk : IntKind.i64.wrap ((k : Int) + 1) = (k : Int) + 1 := i64w (by omega) (by omega)
        have hb2 : ps[k]? = some b := by rw [List.getElem?_take, if_pos hk2] at hb; exact hb
        obtain ⟨hkl, hgb⟩ := List.getElem?_eq_some_iff.1 hb2
        have hbw := (he b (List.mem_of_getElem? hb2)).wants
        have hZ' : ∀ s', s'.norm [0, 3, 4, 5] = head99k ps m i a (k + 1) → fin [CRes.tmp 2] 0 (Z s') = some (.bool (!(t.any fun q => a.wants.any fun w => q.wants.any (cw w)) && placesGo (ps.take i ++ [a]) r), []) := fun s' h => hZ () s' trivial h
        simp only [List.any_cons, Bool.not_or]
        simp [head99k, c99b2, hk2]
        refine (loop_list a.wants (fun j (_ : Unit) => head99j ps m i a k j) (fun _ _ => True) (fun _ u _ => (.bool (!(u.any fun w => b.wants.any (cw w)) && (!(t.any fun q => a.wants.any fun w => q.wants.any (cw w)) && placesGo (ps.take i ++ [a]) r)), [])) (fun acc V _ => ?_) (fun jj w u acc V hv hjj hu _ hV => ?_) () ?_ trivial ?_).trans (by simp [Bool.and_assoc])
        · simp [head99j, c99b1]
          exact (hZ' _ (by simp [head99k, hwk])).trans (by simp)
        · have hwj : IntKind.i64.wrap ((jj : Int) + 1) = (jj : Int) + 1 := i64w (by omega) (by omega)
          obtain ⟨_, hgw⟩ := List.getElem?_eq_some_iff.1 hv
          have hV' : ∀ s', s'.norm [0, 3, 4, 5, 6] = head99j ps m i a k (jj + 1) → fin [CRes.tmp 2] 0 (V s') = some (.bool (!(u.any fun w => b.wants.any (cw w)) && (!(t.any fun q => a.wants.any fun w => q.wants.any (cw w)) && placesGo (ps.take i ++ [a]) r)), []) := fun s' h => hV () s' trivial h
          simp only [List.any_cons, Bool.not_or]
          simp [head99j, c99b1, hjj]
          refine (loop_list b.wants (fun n (_ : Unit) => head99n ps m i a k jj n) (fun _ _ => True) (fun _ x _ => (.bool (!(x.any (cw w)) && (!(u.any fun w => b.wants.any (cw w)) && (!(t.any fun q => a.wants.any fun w => q.wants.any (cw w)) && placesGo (ps.take i ++ [a]) r))), [])) (fun acc U _ => ?_) (fun n y x acc U hy hn hx _ hU => ?_) () ?_ trivial ?_).trans (by simp [Bool.and_assoc])
          · simp [head99n, c99b0, hkl, hgb]
            exact (hV' _ (by simp [head99j, hwj])).trans (by simp)
          · have hwn : IntKind.i64.wrap ((n : Int) + 1) = (n : Int) + 1 := i64w (by omega) (by omega)
            obtain ⟨_, hgy⟩ := List.getElem?_eq_some_iff.1 hy
            simp only [List.any_cons, Bool.not_or]
            simp [head99n, c99b0, hkl, hgb, hn, hgy, hjj, hgw, cw]
            cases e1 : sEq w.hold ⟨#[]⟩ <;> cases e2 : sEq w.hold y.hold <;> simp
            all_goals exact (hU () _ trivial (by simp [head99n, hwn])).trans (by simp [cw, e1])
          · simp [head99n]
          · unfold big; omega
        · simp [head99j]
        · unfold big; omega
      · simp [head99k]
      · simp; unfold big; omega
  · simp [head99]
  · unfold big; omega

def head24 (l : Land) (m : Md) (i : Nat) : St := hd [(1, .ptr 0 0 0), (3, .int .i64 i)] [.box (l.c .bor m)] 0

theorem prevOr {α : Type} {xs : List α} {i : Nat} (hi : i < xs.length) (hm : xs.length ≤ 9223372036854775807) : (¬ 0 < i ∧ (xs.take i).getLast? = none) ∨ ∃ j : Nat, 0 < i ∧ IntKind.i64.wrap ((i : Int) - 1) = (j : Int) ∧ ∃ h : j < xs.length, (xs.take i).getLast? = some (xs[j]'h) := by
  by_cases hz : i = 0
  · left; exact ⟨by omega, by rw [hz]; rfl⟩
  · right; exact prev hi hm hz

theorem law24 (l : Land) (m : Md) (hl : l.small) : F 24 [.agg (l.c .bor m)] [] = some (.bool (landOk l), []) := by
  refine F_run fn24 rfl ?_
  obtain ⟨s1, s2, s3⟩ := hl
  have w99 := law99 l.places m s2 s3
  simp [c24, landOk]
  cases q1 : inR l.time 0 2000000 <;> simp
  by_cases q2 : l.time.tmod 2 = 0
  case neg => simp [q2]
  simp [q2]
  by_cases q3 : l.grants.length ≤ 40
  case neg =>
    have q3' : ¬ ((l.grants.length : Int) ≤ 40) := by omega
    have q32 : 40 < (l.grants.length : Int) := by omega
    simp [q3, q3', q32]
  have q3' : (l.grants.length : Int) ≤ 40 := by omega
  have q32 : ¬ (40 < (l.grants.length : Int)) := by omega
  simp [q3, q3', q32]
  refine (loop_list l.grants (fun i (_ : Unit) => head24 l m i) (fun _ _ => True) (fun i r _ => (.bool (grantsGo l.time (l.grants.take i) r && (decide (l.places.length ≤ 4) && placesGo [] l.places)), [])) (fun acc Y _ => ?_) (fun i a r acc Y ha hi hr _ hY => ?_) () ?_ trivial ?_).trans ?_
  · simp [head24, c24b0, grantsGo, w99]
  · have hw : IntKind.i64.wrap ((i : Int) + 1) = (i : Int) + 1 := i64w (by omega) (by omega)
    obtain ⟨_, hg⟩ := List.getElem?_eq_some_iff.1 ha
    have hs := take_snoc ha
    have hY' : ∀ s', s'.norm [1, 3] = head24 l m (i + 1) → fin [CRes.tmp 2] 0 (Y s') = some (.bool (grantsGo l.time (l.grants.take i ++ [a]) r && (decide (l.places.length ≤ 4) && placesGo [] l.places)), []) := fun s' h => by rw [← hs]; exact hY () s' trivial h
    rcases prevOr hi (by omega) with ⟨hp, hlast⟩ | ⟨j, hp, hw1, hj, hlast⟩
    · simp [head24, c24b0, grantsGo, hg, hi, ascG, hp, hlast, grantOk]
      cases r1 : isHold a.hold <;> simp
      cases r2 : isName a.berth <;> simp
      cases r3 : isName a.copy <;> simp
      cases r4 : inR a.at_ 0 1000000 <;> simp
      cases r5 : inR a.til 0 (IntKind.i64.wrap (l.time + 32)) <;> simp
      exact (hY' _ (by simp [head24, hw])).trans (by simp)
    · simp [head24, c24b0, grantsGo, hg, hi, ascG, hp, hw1, hj, hlast, grantOk]
      cases r1 : isHold a.hold <;> simp
      cases r2 : isName a.berth <;> simp
      cases r3 : isName a.copy <;> simp
      cases r4 : inR a.at_ 0 1000000 <;> simp
      cases r5 : inR a.til 0 (IntKind.i64.wrap (l.time + 32)) <;> simp
      cases r6 : sLt l.grants[j].hold a.hold <;> simp
      exact (hY' _ (by simp [head24, hw])).trans (by simp)
  · simp [head24]
  · unfold big; omega
  · simp
    cases grantsGo l.time [] l.grants <;> simp
end Go.Proofs.Ytgpedkkhndljiaa

namespace Go.Proofs.Ytgpedkkhndljiaa
open Go
set_option linter.unusedSimpArgs false
set_option maxRecDepth 100000

def szGrant (a : Grant) (l : Int) : Int := offs l [a.hold.size, a.berth.size, a.copy.size]
def szGrantGo : List Grant → Int → Int
  | [], l => l
  | w :: r, l => if szGrant w l < 0 then -1 else szGrantGo r (szGrant w l)
def szGrants (ws : List Grant) (l : Int) : Int := if off l ws.length < 0 then -1 else szGrantGo ws (off l ws.length)

theorem law146 (w : Grant) (l : Int) : F 146 [.agg w.c, .int .i64 l] [] = some (.int .i64 (szGrant w l), []) := by
  refine F_run fn146 rfl ?_
  simp [c146, szGrant, offs]
  by_cases h1 : IntKind.i64.wrap (l - w.hold.size) < 0
  · simp [h1, off_neg h1]
  rw [off_pos h1]
  by_cases h2 : IntKind.i64.wrap (IntKind.i64.wrap (l - w.hold.size) - w.berth.size) < 0
  · simp [h1, h2, off_neg h2]
  rw [off_pos h2]
  by_cases h3 : IntKind.i64.wrap (IntKind.i64.wrap (IntKind.i64.wrap (l - w.hold.size) - w.berth.size) - w.copy.size) < 0
  · simp [h1, h2, h3, off_neg h3]
  · simp [h1, h2, h3, off_pos h3]

theorem law148 (w : Grant) : F 148 [.agg w.c] [] = some (.agg w.c, []) := by
  refine F_run fn148 rfl ?_
  simp [c148]

theorem law150 (w : Grant) : F 150 [.agg w.c, .agg w.c] [] = some (.bool true, []) := by
  refine F_run fn150 rfl ?_
  simp [c150]

def headToGrant (ws : List Grant) (i : Nat) : St := hd [(0, .sl .bor 5 (ws.map Grant.c)), (3, .ref 0), (4, .int .i64 i)] [.arr 5 (fillU Grant.c [.str ⟨#[]⟩, .str ⟨#[]⟩, .str ⟨#[]⟩, .int .i64 0, .int .i64 0] ws i)] 0

theorem law104 (ws : List Grant) (hl : ws.length ≤ 1048576) : F 104 [.sl .bor 5 (ws.map Grant.c)] [] = some (.sl .own 5 (ws.map Grant.c), []) := by
  refine F_run fn104 rfl ?_
  have hb : (ws.length : Int) * 64 ≤ 140737488355328 := by omega
  simp [c104, hb]
  refine (loop_list ws (fun i (_ : Unit) => headToGrant ws i) (fun _ _ => True) (fun _ _ _ => (.sl .own 5 (ws.map Grant.c), [])) (fun acc Y _ => ?_) (fun i a r acc Y ha hi hr _ hY => ?_) () ?_ trivial ?_).trans rfl
  · simp [headToGrant, c104b0, fillU_all]
  · have hw : IntKind.i64.wrap ((i : Int) + 1) = (i : Int) + 1 := i64w (by omega) (by omega)
    obtain ⟨_, hg⟩ := List.getElem?_eq_some_iff.1 ha
    have h1 := law148 a
    simp only [Grant.c] at h1
    simp [headToGrant, c104b0, hi, hg, h1]
    rw [hY () _ trivial]
    have h2 := fillU_set Grant.c [.str ⟨#[]⟩, .str ⟨#[]⟩, .str ⟨#[]⟩, .int .i64 0, .int .i64 0] ha
    simp only [Grant.c] at h2
    simp [headToGrant, hw, h2]
  · simp [headToGrant, fillU_zero]
  · unfold big; omega


def headSzGrant (ws : List Grant) (l : Int) (i : Nat) : St := hd [(0, .sl .bor 5 (ws.map Grant.c)), (1, .int .i64 l), (5, .int .i64 i)] [] 0

theorem law98 (ws : List Grant) (l : Int) (hl : ws.length ≤ 9223372036854775807) (h0 : 0 ≤ l) (hx : l ≤ 1048576) : F 98 [.sl .bor 5 (ws.map Grant.c), .int .i64 l] [] = some (.int .i64 (szGrants ws l), []) := by
  refine F_run fn98 rfl ?_
  simp [c98, szGrants]
  by_cases h1 : IntKind.i64.wrap (l - ws.length) < 0
  · simp [h1, off_neg h1]
  · rw [off_pos h1]
    have h2 : ¬ (IntKind.i64.wrap (l - ws.length) < 0) := h1
    have hn : ws.length ≤ 1048576 := wrap_len h1 hl h0 hx
    simp [h1]
    refine (loop_list ws (fun i (l : Int) => headSzGrant ws l i) (fun _ _ => True) (fun _ r l => (.int .i64 (szGrantGo r l), [])) (fun acc Y _ => ?_) (fun i a r acc Y ha hi hr _ hY => ?_) _ ?_ trivial ?_).trans rfl
    · simp [headSzGrant, c98b0, szGrantGo]
    · have hw : IntKind.i64.wrap ((i : Int) + 1) = (i : Int) + 1 := i64w (by omega) (by omega)
      obtain ⟨_, hg⟩ := List.getElem?_eq_some_iff.1 ha
      have h1 := law146 a acc
      simp only [Grant.c] at h1
      simp [headSzGrant, c98b0, hi, hg, h1, szGrantGo]
      by_cases h3 : szGrant a acc < 0
      · simp [h3]
      · simp [h3]
        rw [hY _ _ trivial]
        simp [headSzGrant, hw]
    · simp [headSzGrant]
    · unfold big; omega


def headEqGrant (ws : List Grant) (i : Nat) : St := hd [(0, .sl .bor 5 (ws.map Grant.c)), (1, .sl .bor 5 (ws.map Grant.c)), (5, .int .i64 i)] [] 0

theorem law108 (ws : List Grant) (hl : ws.length < big) : F 108 [.sl .bor 5 (ws.map Grant.c), .sl .bor 5 (ws.map Grant.c)] [] = some (.bool true, []) := by
  refine F_run fn108 rfl ?_
  have hm : ws.length ≤ 9223372036854775807 := by unfold big at hl; omega
  simp [c108]
  refine (loop_list ws (fun i (_ : Unit) => headEqGrant ws i) (fun _ _ => True) (fun _ r l => (.bool true, [])) (fun acc Y _ => ?_) (fun i a r acc Y ha hi hr _ hY => ?_) () ?_ trivial ?_).trans rfl
  · simp [headEqGrant, c108b0]
  · have hw : IntKind.i64.wrap ((i : Int) + 1) = (i : Int) + 1 := i64w (by omega) (by omega)
    obtain ⟨_, hg⟩ := List.getElem?_eq_some_iff.1 ha
    have h1 := law150 a
    simp only [Grant.c] at h1
    simp [headEqGrant, c108b0, hi, hg, h1]
    rw [hY () _ trivial]
    simp [headEqGrant, hw]
  · simp [headEqGrant]
  · exact hl


theorem szGrant_le {w : Grant} {l : Int} (hw : w.wf) (h0 : 0 ≤ l) (hx : l ≤ 1048576) (h : 0 ≤ szGrant w l) : szGrant w l ≤ l := by
  unfold szGrant offs offs offs offs at *
  split at h
  · simp at h
  · rename_i h1
    have k1 := off_le h0 hw.hold (by omega) hx
    rw [if_neg h1]
    split at h
    · simp at h
    · rename_i h2
      have k2 := off_le (l := off l w.hold.size) (by omega) hw.berth (by omega) (by omega)
      rw [if_neg h2]
      split at h
      · simp at h
      · rename_i h3
        have k3 := off_le (l := off (off l w.hold.size) w.berth.size) (by omega) hw.copy (by omega) (by omega)
        rw [if_neg h3]
        omega

theorem szGrants_le {ws : List Grant} {l : Int} (hw : ListWf Grant.wf ws) (h0 : 0 ≤ l) (hx : l ≤ 1048576) (h : 0 ≤ szGrants ws l) : szGrants ws l ≤ l ∧ ws.length ≤ 1048576 := by
  have go : ∀ (ws : List Grant) (l : Int), (∀ w ∈ ws, w.wf) → 0 ≤ l → l ≤ 1048576 → 0 ≤ szGrantGo ws l → szGrantGo ws l ≤ l := by
    intro ws
    induction ws with
    | nil => intro l _ _ _ _; exact Int.le_refl _
    | cons w r ih =>
      intro l hw h0 hx h
      simp only [szGrantGo] at h ⊢
      split at h
      · simp at h
      · rename_i h1
        rw [if_neg h1]
        have k1 := szGrant_le (hw w List.mem_cons_self) h0 hx (by omega)
        have := ih _ (fun x hx => hw x (List.mem_cons_of_mem _ hx)) (by omega) (by omega) h
        omega
  unfold szGrants at *
  split at h
  · simp at h
  · rename_i h1
    have k1 := off_le h0 hw.len (by omega) hx
    rw [if_neg h1]
    have := go ws _ hw.all (by omega) (by omega) h
    omega

def zeroPlace : List AV := [.str ⟨#[]⟩, .int .i64 0, .sl .own 7 []]

theorem law149 (p : Place) (hp : p.small) : F 149 [.agg (p.c .bor)] [] = some (.agg (p.c .own), []) := by
  refine F_run fn149 rfl ?_
  simp [c149, law4 p.wants hp.wants]

theorem law151 (p : Place) (hp : p.small) : F 151 [.agg (p.c .bor), .agg (p.c .bor)] [] = some (.bool true, []) := by
  refine F_run fn151 rfl ?_
  have := hp.wants
  simp [c151, law5 p.wants (by unfold big; omega)]

def headToPlace (m : Md) (ws : List Place) (i : Nat) : St := hd [(0, .sl .bor 3 (ws.map (Place.c m))), (3, .ref 0), (4, .int .i64 i)] [.arr 3 (fillU (Place.c .own) zeroPlace ws i)] 0

theorem law103 (m : Md) (ws : List Place) (hl : ws.length ≤ 1048576) (he : ∀ p ∈ ws, p.small) : F 103 [.sl .bor 3 (ws.map (Place.c m))] [] = some (.sl .own 3 (ws.map (Place.c .own)), []) := by
  refine F_run fn103 rfl ?_
  have hb : (ws.length : Int) * 48 ≤ 140737488355328 := by omega
  simp [c103, hb]
  refine (loop_list ws (fun i (_ : Unit) => headToPlace m ws i) (fun _ _ => True) (fun _ _ _ => (.sl .own 3 (ws.map (Place.c .own)), [])) (fun acc Y _ => ?_) (fun i a r acc Y ha hi hr _ hY => ?_) () ?_ trivial ?_).trans rfl
  · simp [headToPlace, c103b0, fillU_all]
  · have hw : IntKind.i64.wrap ((i : Int) + 1) = (i : Int) + 1 := i64w (by omega) (by omega)
    obtain ⟨_, hg⟩ := List.getElem?_eq_some_iff.1 ha
    have h1 := law149 a (he a (List.mem_of_getElem? ha))
    simp only [Place.c] at h1
    have h2 := fillU_set (Place.c .own) zeroPlace ha
    simp only [Place.c] at h2
    simp [headToPlace, c103b0, hi, hg, h1, zeroPlace]
    rw [hY () _ trivial]
    simp [zeroPlace] at h2
    simp [headToPlace, hw, h2, zeroPlace]
  · simp [headToPlace, fillU_zero, zeroPlace]
  · unfold big; omega

def headEqPlace (m m' : Md) (ws : List Place) (i : Nat) : St := hd [(0, .sl .bor 3 (ws.map (Place.c m))), (1, .sl .bor 3 (ws.map (Place.c m'))), (5, .int .i64 i)] [] 0

theorem law107 (m m' : Md) (ws : List Place) (hl : ws.length < big) (he : ∀ p ∈ ws, p.small) : F 107 [.sl .bor 3 (ws.map (Place.c m)), .sl .bor 3 (ws.map (Place.c m'))] [] = some (.bool true, []) := by
  refine F_run fn107 rfl ?_
  have hm : ws.length ≤ 9223372036854775807 := by unfold big at hl; omega
  simp [c107]
  refine (loop_list ws (fun i (_ : Unit) => headEqPlace m m' ws i) (fun _ _ => True) (fun _ r l => (.bool true, [])) (fun acc Y _ => ?_) (fun i a r acc Y ha hi hr _ hY => ?_) () ?_ trivial ?_).trans rfl
  · simp [headEqPlace, c107b0]
  · have hw : IntKind.i64.wrap ((i : Int) + 1) = (i : Int) + 1 := i64w (by omega) (by omega)
    obtain ⟨_, hg⟩ := List.getElem?_eq_some_iff.1 ha
    have h1 := law151 a (he a (List.mem_of_getElem? ha))
    simp only [Place.c] at h1
    simp [headEqPlace, c107b0, hi, hg, h1]
    rw [hY () _ trivial]
    simp [headEqPlace, hw]
  · simp [headEqPlace]
  · exact hl

/-- A place's size: down, and what it says of the place. -/
theorem law147 (p : Place) (l : Int) (hw : p.wf) (h0 : 0 ≤ l) (hx : l ≤ 1048576) : ∃ r, F 147 [.agg (p.c .bor), .int .i64 l] [] = some (.int .i64 r, []) ∧ (r < 0 ∨ (0 ≤ r ∧ r ≤ l ∧ p.small)) := by
  have hL : maxLen = 9223372036854775807 := rfl
  by_cases k1 : IntKind.i64.wrap (l - p.berth.size) < 0
  · refine ⟨-1, F_run fn147 rfl ?_, .inl (by omega)⟩
    simp [c147, k1]
  have e1 := off_le h0 hw.berth (by rw [off_pos k1]; omega) hx
  rw [off_pos k1] at e1
  generalize hl1 : IntKind.i64.wrap (l - p.berth.size) = l1 at k1 e1
  have w1 := law8 p.wants l1 (by have := hw.wants.len; omega) (by omega) (by omega)
  rcases Int.lt_or_le (szWants p.wants l1) 0 with k2 | k2
  · refine ⟨-1, F_run fn147 rfl ?_, .inl (by omega)⟩
    simp [c147, hl1, k1, w1, k2]
  have e2 := szWants_le hw.wants (by omega) (by omega) k2
  have k2' : ¬ (szWants p.wants l1 < 0) := by omega
  refine ⟨_, F_run fn147 rfl ?_, .inr ⟨k2, by omega, ⟨e2.2⟩⟩⟩
  simp [c147, hl1, k1, w1, k2']

noncomputable def szPlace (m : Md) (p : Place) (l : Int) : Int := match F 147 [.agg (p.c m), .int .i64 l] [] with
  | some (.int .i64 r, []) => r
  | _ => -1
theorem szPlace_is (p : Place) (l : Int) (hw : p.wf) (h0 : 0 ≤ l) (hx : l ≤ 1048576) : F 147 [.agg (p.c .bor), .int .i64 l] [] = some (.int .i64 (szPlace .bor p l), []) ∧ (szPlace .bor p l < 0 ∨ (0 ≤ szPlace .bor p l ∧ szPlace .bor p l ≤ l ∧ p.small)) := by
  obtain ⟨r, h1, h2⟩ := law147 p l hw h0 hx
  have : szPlace .bor p l = r := by unfold szPlace; rw [h1]
  rw [this]
  exact ⟨h1, h2⟩
noncomputable def szPlaceGo : List Place → Int → Int
  | [], l => l
  | w :: r, l => if szPlace .bor w l < 0 then -1 else szPlaceGo r (szPlace .bor w l)
noncomputable def szPlaces (ws : List Place) (l : Int) : Int := if off l ws.length < 0 then -1 else szPlaceGo ws (off l ws.length)

def headSzPlace (m : Md) (ws : List Place) (l : Int) (i : Nat) : St := hd [(0, .sl .bor 3 (ws.map (Place.c m))), (1, .int .i64 l), (5, .int .i64 i)] [] 0

theorem law97 (m : Md) (ws : List Place) (l : Int) (hw : ListWf Place.wf ws) (h0 : 0 ≤ l) (hx : l ≤ 1048576) : F 97 [.sl .bor 3 (ws.map (Place.c m)), .int .i64 l] [] = some (.int .i64 (szPlaces ws l), []) := by
  refine F_run fn97 rfl ?_
  have hl := hw.len
  have hL : maxLen = 9223372036854775807 := rfl
  simp [c97, szPlaces]
  by_cases h1 : IntKind.i64.wrap (l - ws.length) < 0
  · simp [h1, off_neg h1]
  · rw [off_pos h1]
    have hn : ws.length ≤ 1048576 := wrap_len h1 (by omega) h0 hx
    have hstart : IntKind.i64.wrap (l - ws.length) ≤ 1048576 := by rw [i64w (by omega) (by omega)]; omega
    simp [h1]
    refine (loop_list ws (fun i (l : Int) => headSzPlace m ws l i) (fun _ l => 0 ≤ l ∧ l ≤ 1048576) (fun _ r l => (.int .i64 (szPlaceGo r l), [])) (fun acc Y _ => ?_) (fun i a r acc Y ha hi hr hacc hY => ?_) _ ?_ ⟨by omega, hstart⟩ ?_).trans rfl
    · simp [headSzPlace, c97b0, szPlaceGo]
    · have hw1 : IntKind.i64.wrap ((i : Int) + 1) = (i : Int) + 1 := i64w (by omega) (by omega)
      obtain ⟨_, hg⟩ := List.getElem?_eq_some_iff.1 ha
      obtain ⟨h1, h2⟩ := szPlace_is a acc (hw.all a (List.mem_of_getElem? ha)) hacc.1 hacc.2
      simp only [Place.c] at h1
      simp [headSzPlace, c97b0, hi, hg, h1, szPlaceGo]
      by_cases h3 : szPlace .bor a acc < 0
      · simp [h3]
      · simp [h3]
        rw [hY (szPlace .bor a acc) _ ⟨by omega, by omega⟩]
        simp [headSzPlace, hw1]
    · simp [headSzPlace]
    · unfold big; omega

theorem szPlaces_le {ws : List Place} {l : Int} (hw : ListWf Place.wf ws) (h0 : 0 ≤ l) (hx : l ≤ 1048576) (h : 0 ≤ szPlaces ws l) : szPlaces ws l ≤ l ∧ ws.length ≤ 1048576 ∧ ∀ p ∈ ws, p.small := by
  have go : ∀ (ws : List Place) (l : Int), (∀ w ∈ ws, w.wf) → 0 ≤ l → l ≤ 1048576 → 0 ≤ szPlaceGo ws l → szPlaceGo ws l ≤ l ∧ ∀ p ∈ ws, p.small := by
    intro ws
    induction ws with
    | nil => intro l _ _ _ _; exact ⟨Int.le_refl _, by simp⟩
    | cons w r ih =>
      intro l hw h0 hx h
      simp only [szPlaceGo] at h ⊢
      split at h
      · simp at h
      · rename_i h1
        rw [if_neg h1]
        obtain ⟨_, k1⟩ := szPlace_is w l (hw w List.mem_cons_self) h0 hx
        rcases k1 with k1 | ⟨k1, k2, k3⟩
        · exact absurd k1 h1
        · have := ih _ (fun x hx => hw x (List.mem_cons_of_mem _ hx)) (by omega) (by omega) h
          exact ⟨by omega, fun p hp => by
            rcases List.mem_cons.1 hp with rfl | hp
            · exact k3
            · exact this.2 p hp⟩
  unfold szPlaces at *
  split at h
  · simp at h
  · rename_i h1
    have k1 := off_le h0 hw.len (by omega) hx
    rw [if_neg h1]
    have := go ws _ hw.all (by omega) (by omega) h
    exact ⟨by omega, k1.2, this.2⟩

theorem law25 (l : Land) (n : Int) (hw : l.wf) (h0 : 0 ≤ n) (hx : n ≤ 1048576) : ∃ r, F 25 [.agg (l.c .bor .bor), .int .i64 n] [] = some (.int .i64 r, []) ∧ (r < 0 ∨ (0 ≤ r ∧ r ≤ n ∧ l.small)) := by
  have hL : maxLen = 9223372036854775807 := rfl
  have w1 := law98 l.grants n (by have := hw.grants.len; omega) h0 hx
  rcases Int.lt_or_le (szGrants l.grants n) 0 with k1 | k1
  · refine ⟨-1, F_run fn25 rfl ?_, .inl (by omega)⟩
    simp [c25, w1, k1]
  have e1 := szGrants_le hw.grants h0 hx k1
  have k1' : ¬ (szGrants l.grants n < 0) := by omega
  have w2 := law97 .bor l.places (szGrants l.grants n) hw.places k1 (by omega)
  rcases Int.lt_or_le (szPlaces l.places (szGrants l.grants n)) 0 with k2 | k2
  · refine ⟨-1, F_run fn25 rfl ?_, .inl (by omega)⟩
    simp [c25, w1, k1', w2, k2]
  have e2 := szPlaces_le hw.places k1 (by omega) k2
  have k2' : ¬ (szPlaces l.places (szGrants l.grants n) < 0) := by omega
  refine ⟨_, F_run fn25 rfl ?_, .inr ⟨k2, by omega, e1.2, e2.2.1, e2.2.2⟩⟩
  simp [c25, w1, k1', w2, k2']

theorem law21 (m : Md) (l : Land) (hl : l.small) : F 21 [.agg (l.c .bor m)] [] = some (.agg (l.c .own .own), []) := by
  refine F_run fn21 rfl ?_
  simp [c21, law104 l.grants hl.grants, law103 m l.places hl.places hl.each]

theorem law22 (m m' : Md) (l : Land) (hl : l.small) : F 22 [.agg (l.c .bor m), .agg (l.c .bor m')] [] = some (.bool true, []) := by
  refine F_run fn22 rfl ?_
  have h1 := hl.grants
  have h2 := hl.places
  simp [c22, law108 l.grants (by unfold big; omega), law107 m m' l.places (by unfold big; omega) hl.each]
end Go.Proofs.Ytgpedkkhndljiaa

namespace Go.Proofs.Ytgpedkkhndljiaa
open Go
set_option linter.unusedSimpArgs false
set_option maxRecDepth 100000

structure Parcel.small (p : Parcel) : Prop where
  wants : p.wants.length ≤ 1048576

end Go.Proofs.Ytgpedkkhndljiaa

namespace Go.Proofs.Ytgpedkkhndljiaa
open Go
set_option linter.unusedSimpArgs false
set_option maxRecDepth 100000

theorem mid_get {α : Type} {l r : List α} {a : α} {i : Nat} (h : l.length = i) : (l ++ a :: r)[i]? = some a := by subst h; simp
theorem mid_at {α : Type} {l r : List α} {a : α} {i : Nat} (h : l.length = i) (hp : i < (l ++ a :: r).length) : (l ++ a :: r)[i] = a := by subst h; simp
theorem mid_set {α : Type} {l r : List α} {a b : α} {i : Nat} (h : l.length = i) : (l ++ a :: r).set i b = l ++ b :: r := by subst h; simp

/-! ### Grants -/
def markGrant (k : Int) : Grant := ⟨markText k, markText (k + 1), markText (k + 2), k + 3, k + 4⟩
def marksGrant : Nat → Int → List Grant
  | 0, _ => []
  | n + 1, k => markGrant k :: marksGrant n (k + 5)
theorem marksGrant_len : ∀ (n : Nat) (k : Int), (marksGrant n k).length = n
  | 0, _ => rfl
  | n + 1, k => by simp [marksGrant, marksGrant_len n]

def headMkGrant (ws done : List Grant) (k : Int) (i : Nat) : St := hd [(0, .ref 0), (1, .int .i64 k), (5, .int .i64 i)] [.arr 5 (done.map Grant.c ++ (ws.drop i).map Grant.c)] 1

theorem law124 (ws : List Grant) (k : Int) (h0 : 0 ≤ k) (hl : ws.length ≤ 1048576) (hk : k ≤ 10000000000000) : F 124 [.ref 0, .int .i64 k] [.arr 5 (ws.map Grant.c)] = some (.int .i64 (k + 5 * ws.length), [some (.arr 5 ((marksGrant ws.length k).map Grant.c))]) := by
  refine F_run fn124 rfl ?_
  simp [c124]
  refine (loop_list ws (fun i (x : List Grant × Int) => headMkGrant ws x.1 x.2 i) (fun i x => x.1.length = i ∧ x.2 = k + 5 * i) (fun _ r x => (.int .i64 (x.2 + 5 * r.length), [some (.arr 5 ((x.1 ++ marksGrant r.length x.2).map Grant.c))])) (fun acc Y hacc => ?_) (fun i a r acc Y ha hi hr hacc hY => ?_) ([], k) ?_ ⟨rfl, by simp⟩ ?_).trans ?_
  · simp [headMkGrant, c124b0, hacc.1, marksGrant]
  · obtain ⟨hx1, hx2⟩ := hacc
    obtain ⟨done, k'⟩ := acc
    simp only at hx1 hx2
    have hw : IntKind.i64.wrap ((i : Int) + 1) = (i : Int) + 1 := i64w (by omega) (by omega)
    have hd : ws.drop i = a :: r := by rw [hr]; exact (List.drop_eq_getElem_cons hi).trans (by rw [(List.getElem?_eq_some_iff.1 ha).2])
    have hln : done.length + (ws.length - i) = ws.length := by omega
    have m1 := fun (b : List AV) => mid_get (l := done.map Grant.c) (r := r.map Grant.c) (a := b) (i := i) (by simpa using hx1)
    have m3 := fun (b : List AV) => mid_at (l := done.map Grant.c) (r := r.map Grant.c) (a := b) (i := i) (by simpa using hx1)
    have m2 := fun (b b' : List AV) => mid_set (l := done.map Grant.c) (r := r.map Grant.c) (a := b) (b := b') (i := i) (by simpa using hx1)
    have u1 : IntKind.i64.wrap (k' + 1) = k' + 1 := i64w (by omega) (by omega)
    have u2 : IntKind.i64.wrap (k' + 1 + 1) = k' + 2 := by rw [i64w (by omega) (by omega)]; omega
    have u3 : IntKind.i64.wrap (k' + 2 + 1) = k' + 3 := by rw [i64w (by omega) (by omega)]; omega
    have u4 : IntKind.i64.wrap (k' + 3 + 1) = k' + 4 := by rw [i64w (by omega) (by omega)]; omega
    have u5 : IntKind.i64.wrap (k' + 4 + 1) = k' + 5 := by rw [i64w (by omega) (by omega)]; omega
    have t1 := law96 k' (by omega)
    have t2 := law96 (k' + 1) (by omega)
    have t3 := law96 (k' + 2) (by omega)
    have hlt : i < done.length + (r.length + 1) := by omega
    have hltI : (i : Int) < (done.length : Int) + ((r.length : Int) + 1) := by omega
    simp [headMkGrant, c124b0, hi, hln, hd, hlt, hltI, m1, m2, m3, u1, u2, u3, u4, u5, t1, t2, t3]
    refine (hY (done ++ [markGrant k'], k' + 5) _ ⟨by simp [hx1], by simp only; omega⟩ ?_).trans ?_
    · rw [hr]
      simp [headMkGrant, hw, markGrant]
    · simp [marksGrant]; omega
  · simp [headMkGrant]
  · unfold big; omega
  · simp

def headHlGrant (ws : List Grant) (k : Int) (i : Nat) : St := hd [(0, .sl .bor 5 (ws.map Grant.c)), (1, .int .i64 k), (5, .int .i64 i)] [] 0

theorem marksGrant_get : ∀ {n : Nat} {k : Int} {i : Nat} {a : Grant}, (marksGrant n k)[i]? = some a → a = markGrant (k + 5 * i)
  | 0, _, _, _, h => by simp [marksGrant] at h
  | n + 1, k, 0, a, h => by simp [marksGrant] at h; simp [h]
  | n + 1, k, i + 1, a, h => by
    simp only [marksGrant, List.getElem?_cons_succ] at h
    have := marksGrant_get h
    rw [this]
    congr 1
    push_cast
    omega

theorem law126 (n : Nat) (k : Int) (h0 : 0 ≤ k) (hl : n ≤ 1048576) (hk : k ≤ 10000000000000) : F 126 [.sl .bor 5 ((marksGrant n k).map Grant.c), .int .i64 k] [] = some (.int .i64 (k + 5 * n), []) := by
  refine F_run fn126 rfl ?_
  have hln := marksGrant_len n k
  simp [c126]
  refine (loop_list (marksGrant n k) (fun i (_ : Unit) => headHlGrant (marksGrant n k) (k + 5 * i) i) (fun _ _ => True) (fun _ _ _ => (.int .i64 (k + 5 * n), [])) (fun acc Y _ => ?_) (fun i a r acc Y ha hi hr _ hY => ?_) () ?_ trivial ?_).trans ?_
  · rw [hln]
    simp [headHlGrant, c126b0, hln]
  · rw [hln] at hi
    have hw : IntKind.i64.wrap ((i : Int) + 1) = (i : Int) + 1 := i64w (by omega) (by omega)
    obtain ⟨hi2, hg⟩ := List.getElem?_eq_some_iff.1 ha
    obtain rfl := marksGrant_get ha
    have hK : ∃ k' : Int, k' = k + 5 * (i : Int) := ⟨_, rfl⟩
    obtain ⟨k', hk'⟩ := hK
    rw [← hk'] at hg
    have hn5 : k + 5 * ((i + 1 : Nat) : Int) = k' + 5 := by push_cast; omega
    have u1 : IntKind.i64.wrap (k' + 1) = k' + 1 := i64w (by omega) (by omega)
    have u2 : IntKind.i64.wrap (k' + 1 + 1) = k' + 2 := by rw [i64w (by omega) (by omega)]; omega
    have u3 : IntKind.i64.wrap (k' + 2 + 1) = k' + 3 := by rw [i64w (by omega) (by omega)]; omega
    have u4 : IntKind.i64.wrap (k' + 3 + 1) = k' + 4 := by rw [i64w (by omega) (by omega)]; omega
    have u5 : IntKind.i64.wrap (k' + 4 + 1) = k' + 5 := by rw [i64w (by omega) (by omega)]; omega
    have t1 := law96 k' (by omega)
    have t2 := law96 (k' + 1) (by omega)
    have t3 := law96 (k' + 2) (by omega)
    rw [← hk']
    simp [headHlGrant, c126b0, hi, hln, hg, markGrant, u1, u2, u3, u4, u5, t1, t2, t3]
    refine (hY () _ trivial ?_)
    rw [hn5]
    simp [headHlGrant, hw]
  · simp [headHlGrant]
  · rw [hln]; unfold big; omega
  · rfl

/-! ### Places -/
def markPlace (p : Place) (k : Int) : Place := ⟨markText k, k + 1, marksWant p.wants.length (k + 2)⟩
def marksPlace : List Place → Int → List Place
  | [], _ => []
  | p :: r, k => markPlace p k :: marksPlace r (k + 2 + 7 * p.wants.length)
def markPlaceK : List Place → Int → Int
  | [], k => k
  | p :: r, k => markPlaceK r (k + 2 + 7 * p.wants.length)

theorem markPlaceK_le : ∀ (ws : List Place) (k : Int), (∀ p ∈ ws, p.small) → markPlaceK ws k ≤ k + ws.length * 7340034
  | [], k, _ => by simp [markPlaceK]
  | p :: r, k, h => by
    have h1 := (h p List.mem_cons_self).wants
    have h2 := markPlaceK_le r (k + 2 + 7 * p.wants.length) (fun q hq => h q (List.mem_cons_of_mem _ hq))
    simp only [markPlaceK, List.length_cons]
    push_cast
    omega
theorem le_markPlaceK : ∀ (ws : List Place) (k : Int), k ≤ markPlaceK ws k
  | [], k => Int.le_refl _
  | p :: r, k => by
    have := le_markPlaceK r (k + 2 + 7 * p.wants.length)
    simp only [markPlaceK]
    omega

def headMkPlace (ws done : List Place) (k : Int) (i : Nat) : St := hd [(0, .ref 0), (1, .int .i64 k), (5, .int .i64 i)] [.arr 3 (done.map (Place.c .own) ++ (ws.drop i).map (Place.c .own))] 1

theorem law123 (ws : List Place) (k : Int) (h0 : 0 ≤ k) (hl : ws.length ≤ 1048576) (he : ∀ p ∈ ws, p.small) (hk : markPlaceK ws k ≤ 10000000000000) :
    F 123 [.ref 0, .int .i64 k] [.arr 3 (ws.map (Place.c .own))] = some (.int .i64 (markPlaceK ws k), [some (.arr 3 ((marksPlace ws k).map (Place.c .own)))]) := by
  refine F_run fn123 rfl ?_
  simp [c123]
  refine (loop_list ws (fun i (x : List Place × Int) => headMkPlace ws x.1 x.2 i) (fun i x => x.1.length = i ∧ 0 ≤ x.2 ∧ markPlaceK (ws.drop i) x.2 ≤ 10000000000000) (fun _ r x => (.int .i64 (markPlaceK r x.2), [some (.arr 3 ((x.1 ++ marksPlace r x.2).map (Place.c .own)))])) (fun acc Y hacc => ?_) (fun i a r acc Y ha hi hr hacc hY => ?_) ([], k) ?_ ⟨rfl, h0, hk⟩ ?_).trans ?_
  · simp [headMkPlace, c123b0, hacc.1, marksPlace, markPlaceK]
  · obtain ⟨hx1, hx2, hx3⟩ := hacc
    obtain ⟨done, k'⟩ := acc
    simp only at hx1 hx2 hx3
    have hw : IntKind.i64.wrap ((i : Int) + 1) = (i : Int) + 1 := i64w (by omega) (by omega)
    have hd : ws.drop i = a :: r := by rw [hr]; exact (List.drop_eq_getElem_cons hi).trans (by rw [(List.getElem?_eq_some_iff.1 ha).2])
    rw [hd] at hx3
    have hx4 := le_markPlaceK r (k' + 2 + 7 * a.wants.length)
    simp only [markPlaceK] at hx3
    have hln : done.length + (ws.length - i) = ws.length := by omega
    have m1 := fun (b : List AV) => mid_get (l := done.map (Place.c .own)) (r := r.map (Place.c .own)) (a := b) (i := i) (by simpa using hx1)
    have m3 := fun (b : List AV) => mid_at (l := done.map (Place.c .own)) (r := r.map (Place.c .own)) (a := b) (i := i) (by simpa using hx1)
    have m2 := fun (b b' : List AV) => mid_set (l := done.map (Place.c .own)) (r := r.map (Place.c .own)) (a := b) (b := b') (i := i) (by simpa using hx1)
    have u1 : IntKind.i64.wrap (k' + 1) = k' + 1 := i64w (by omega) (by omega)
    have u2 : IntKind.i64.wrap (k' + 1 + 1) = k' + 2 := by rw [i64w (by omega) (by omega)]; omega
    have t1 := law96 k' (by omega)
    have t2 := law71 a.wants (k' + 2) (by omega) (he a (List.mem_of_getElem? ha)).wants (by omega)
    have hlt : i < done.length + (r.length + 1) := by
      have := congrArg List.length hd
      simp at this
      omega
    have hltI : (i : Int) < (done.length : Int) + ((r.length : Int) + 1) := by omega
    simp [headMkPlace, c123b0, hi, hln, hd, hlt, hltI, m1, m2, m3, u1, u2, t1, t2]
    refine (hY (done ++ [markPlace a k'], k' + 2 + 7 * a.wants.length) _ ⟨by simp [hx1], by simp only; omega, by rw [← hr]; exact hx3⟩ ?_).trans ?_
    · simp [headMkPlace, hw, markPlace, ← hr]
    · simp [marksPlace, markPlaceK]
  · simp [headMkPlace]
  · unfold big; omega
  · simp

theorem marksPlace_len : ∀ (ws : List Place) (k : Int), (marksPlace ws k).length = ws.length
  | [], _ => rfl
  | p :: r, k => by simp [marksPlace, marksPlace_len r]
theorem marksPlace_get : ∀ {ws : List Place} {k : Int} {i : Nat} {a : Place}, ws[i]? = some a → (marksPlace ws k)[i]? = some (markPlace a (markPlaceK (ws.take i) k))
  | [], _, _, _, h => by simp at h
  | p :: r, k, 0, a, h => by simp at h; subst h; simp [marksPlace, markPlaceK]
  | p :: r, k, i + 1, a, h => by
    simp only [List.getElem?_cons_succ] at h
    simp only [marksPlace, List.getElem?_cons_succ, List.take_succ_cons, markPlaceK]
    exact marksPlace_get h
theorem markPlaceK_take : ∀ {ws : List Place} {k : Int} {i : Nat} {a : Place}, ws[i]? = some a → markPlaceK (ws.take (i + 1)) k = markPlaceK (ws.take i) k + 2 + 7 * a.wants.length
  | [], _, _, _, h => by simp at h
  | p :: r, k, 0, a, h => by simp at h; subst h; simp [markPlaceK]
  | p :: r, k, i + 1, a, h => by
    simp only [List.getElem?_cons_succ] at h
    simp only [List.take_succ_cons, markPlaceK]
    exact markPlaceK_take h
theorem markPlaceK_le_all : ∀ (ws : List Place) (k : Int) (i : Nat), markPlaceK (ws.take i) k ≤ markPlaceK ws k
  | [], k, i => by simp [markPlaceK]
  | p :: r, k, 0 => by simp only [List.take_zero]; exact le_markPlaceK (p :: r) k
  | p :: r, k, i + 1 => by simp only [List.take_succ_cons, markPlaceK]; exact markPlaceK_le_all r _ i

def headHlPlace (xs : List Place) (k : Int) (i : Nat) : St := hd [(0, .sl .bor 3 (xs.map (Place.c .own))), (1, .int .i64 k), (5, .int .i64 i)] [] 0

theorem law125 (ws : List Place) (k : Int) (h0 : 0 ≤ k) (hl : ws.length ≤ 1048576) (he : ∀ p ∈ ws, p.small) (hk : markPlaceK ws k ≤ 10000000000000) :
    F 125 [.sl .bor 3 ((marksPlace ws k).map (Place.c .own)), .int .i64 k] [] = some (.int .i64 (markPlaceK ws k), []) := by
  refine F_run fn125 rfl ?_
  have hln := marksPlace_len ws k
  simp [c125]
  refine (loop_list ws (fun i (k' : Int) => headHlPlace (marksPlace ws k) k' i) (fun i k' => k' = markPlaceK (ws.take i) k) (fun _ _ _ => (.int .i64 (markPlaceK ws k), [])) (fun acc Y hacc => ?_) (fun i a r acc Y ha hi hr hacc hY => ?_) k ?_ rfl ?_).trans ?_
  · simp [headHlPlace, c125b0, hln, hacc]
  · have hw : IntKind.i64.wrap ((i : Int) + 1) = (i : Int) + 1 := i64w (by omega) (by omega)
    have hg0 := marksPlace_get (k := k) ha
    have hs := he a (List.mem_of_getElem? ha)
    have h5 := markPlaceK_take (k := k) ha
    have h6 := markPlaceK_le_all ws k (i + 1)
    have h7 := le_markPlaceK (ws.take i) k
    rw [← hacc] at hg0 h5 h7
    obtain ⟨hi2, hg⟩ := List.getElem?_eq_some_iff.1 hg0
    have u1 : IntKind.i64.wrap (acc + 1) = acc + 1 := i64w (by omega) (by omega)
    have u2 : IntKind.i64.wrap (acc + 1 + 1) = acc + 2 := by rw [i64w (by omega) (by omega)]; omega
    have t1 := law96 acc (by omega)
    have t2 := law127 a.wants.length (acc + 2) (by omega) hs.wants (by omega)
    have n1 : ¬ (acc + 2 + 7 * (a.wants.length : Int) < 0) := by omega
    simp [headHlPlace, c125b0, hi, hln, hg, markPlace, u1, u2, t1, t2, n1]
    refine (hY (acc + 2 + 7 * a.wants.length) _ h5.symm ?_)
    simp [headHlPlace, hw]
  · simp [headHlPlace]
  · unfold big; omega
  · rfl

/-! ### Books -/
def markLand (l : Land) (k : Int) : Land := ⟨l.time, marksGrant l.grants.length k, marksPlace l.places (k + 5 * l.grants.length)⟩
def markLandK (l : Land) (k : Int) : Int := markPlaceK l.places (k + 5 * l.grants.length)
def Land.refs (n : Nat) (l : Land) : List AV := [.int .i64 l.time, .ref n, .ref (n + 1)]
def Land.arrs (l : Land) : List AO := [.arr 5 (l.grants.map Grant.c), .arr 3 (l.places.map (Place.c .own))]

theorem markLandK_le {l : Land} {k : Int} (hl : l.small) : markLandK l k ≤ k + 7700000000000 := by
  have h1 := markPlaceK_le l.places (k + 5 * l.grants.length) hl.each
  have h2 := hl.grants
  have h3 := hl.places
  unfold markLandK
  omega
theorem le_markLandK (l : Land) (k : Int) : k ≤ markLandK l k := by
  have := le_markPlaceK l.places (k + 5 * l.grants.length)
  unfold markLandK
  omega

theorem law43 (l : Land) (k : Int) (hl : l.small) (h0 : 0 ≤ k) (hk : markLandK l k ≤ 10000000000000) : F 43 [.agg (l.refs 0), .int .i64 k] l.arrs = some (.int .i64 (markLandK l k), (markLand l k).arrs.map some) := by
  refine F_run fn43 rfl ?_
  have h1 := le_markPlaceK l.places (k + 5 * l.grants.length)
  unfold markLandK at hk
  have w1 := law124 l.grants k h0 hl.grants (by omega)
  have w2 := law123 l.places (k + 5 * l.grants.length) (by omega) hl.places hl.each hk
  simp [c43, Land.refs, Land.arrs, w1, w2, markLand, markLandK]

theorem law39 (l : Land) (k : Int) (hl : l.small) (h0 : 0 ≤ k) (hk : markLandK l k ≤ 10000000000000) : F 39 [.agg ((markLand l k).c .bor .own), .int .i64 k] [] = some (.int .i64 (markLandK l k), []) := by
  refine F_run fn39 rfl ?_
  have h1 := le_markPlaceK l.places (k + 5 * l.grants.length)
  unfold markLandK at hk
  have w1 := law126 l.grants.length k h0 hl.grants (by omega)
  have w2 := law125 l.places (k + 5 * l.grants.length) (by omega) hl.places hl.each hk
  have n1 : ¬ (k + 5 * (l.grants.length : Int) < 0) := by omega
  have n2 : ¬ (markPlaceK l.places (k + 5 * (l.grants.length : Int)) < 0) := by omega
  simp [c39, markLand, markLandK, w1, w2, n1, n2]

/-! ### Parcels -/
def markParcel (p : Parcel) (k : Int) : Parcel :=
  ⟨k, markText (k + 1), k + 2, marksWant p.wants.length (k + 3), markText (k + 3 + 7 * p.wants.length), markText (k + 4 + 7 * p.wants.length), k + 5 + 7 * p.wants.length⟩
def marksParcel : List Parcel → Int → List Parcel
  | [], _ => []
  | p :: r, k => markParcel p k :: marksParcel r (k + 6 + 7 * p.wants.length)
def markParcelK : List Parcel → Int → Int
  | [], k => k
  | p :: r, k => markParcelK r (k + 6 + 7 * p.wants.length)
theorem markParcelK_le : ∀ (ws : List Parcel) (k : Int), (∀ p ∈ ws, p.small) → markParcelK ws k ≤ k + ws.length * 7340038
  | [], k, _ => by simp [markParcelK]
  | p :: r, k, h => by
    have h1 := (h p List.mem_cons_self).wants
    have h2 := markParcelK_le r (k + 6 + 7 * p.wants.length) (fun q hq => h q (List.mem_cons_of_mem _ hq))
    simp only [markParcelK, List.length_cons]
    push_cast
    omega
theorem le_markParcelK : ∀ (ws : List Parcel) (k : Int), k ≤ markParcelK ws k
  | [], k => Int.le_refl _
  | p :: r, k => by
    have := le_markParcelK r (k + 6 + 7 * p.wants.length)
    simp only [markParcelK]
    omega
theorem marksParcel_len : ∀ (ws : List Parcel) (k : Int), (marksParcel ws k).length = ws.length
  | [], _ => rfl
  | p :: r, k => by simp [marksParcel, marksParcel_len r]
theorem marksParcel_get : ∀ {ws : List Parcel} {k : Int} {i : Nat} {a : Parcel}, ws[i]? = some a → (marksParcel ws k)[i]? = some (markParcel a (markParcelK (ws.take i) k))
  | [], _, _, _, h => by simp at h
  | p :: r, k, 0, a, h => by simp at h; subst h; simp [marksParcel, markParcelK]
  | p :: r, k, i + 1, a, h => by
    simp only [List.getElem?_cons_succ] at h
    simp only [marksParcel, List.getElem?_cons_succ, List.take_succ_cons, markParcelK]
    exact marksParcel_get h
theorem markParcelK_take : ∀ {ws : List Parcel} {k : Int} {i : Nat} {a : Parcel}, ws[i]? = some a → markParcelK (ws.take (i + 1)) k = markParcelK (ws.take i) k + 6 + 7 * a.wants.length
  | [], _, _, _, h => by simp at h
  | p :: r, k, 0, a, h => by simp at h; subst h; simp [markParcelK]
  | p :: r, k, i + 1, a, h => by
    simp only [List.getElem?_cons_succ] at h
    simp only [List.take_succ_cons, markParcelK]
    exact markParcelK_take h
theorem markParcelK_le_all : ∀ (ws : List Parcel) (k : Int) (i : Nat), markParcelK (ws.take i) k ≤ markParcelK ws k
  | [], k, i => by simp [markParcelK]
  | p :: r, k, 0 => by simp only [List.take_zero]; exact le_markParcelK (p :: r) k
  | p :: r, k, i + 1 => by simp only [List.take_succ_cons, markParcelK]; exact markParcelK_le_all r _ i

def headMkParcel (ws done : List Parcel) (k : Int) (i : Nat) : St := hd [(0, .ref 0), (1, .int .i64 k), (5, .int .i64 i)] [.arr 7 (done.map (Parcel.c .own) ++ (ws.drop i).map (Parcel.c .own))] 1

def headHlParcel (xs : List Parcel) (k : Int) (i : Nat) : St := hd [(0, .sl .bor 7 (xs.map (Parcel.c .own))), (1, .int .i64 k), (5, .int .i64 i)] [] 0

def headEqParcel (m m' : Md) (ws : List Parcel) (i : Nat) : St := hd [(0, .sl .bor 7 (ws.map (Parcel.c m))), (1, .sl .bor 7 (ws.map (Parcel.c m'))), (5, .int .i64 i)] [] 0

end Go.Proofs.Ytgpedkkhndljiaa

namespace Go.Proofs.Ytgpedkkhndljiaa
open Go
set_option linter.unusedSimpArgs false
set_option maxRecDepth 100000

/-- The machine's watchdog, on one run. -/
def wd (c : Int) (r : Run) : Run := if alive r && !leased r c then { r with state := 2, left := 0 } else r

/-- An array of the call's own that is filled from nothing: nil at first. -/
def ownV (sz : Nat) (xs : List (List AV)) : AV := match xs with
  | [] => .sl .own sz []
  | _ => .ref 0
def ownH (sz : Nat) (xs : List (List AV)) : List AO := match xs with
  | [] => []
  | xs => [.arr sz xs]
@[simp] theorem ownV_nil (sz : Nat) : ownV sz [] = .sl .own sz [] := rfl
@[simp] theorem ownH_nil (sz : Nat) : ownH sz [] = [] := rfl
@[simp] theorem ownV_cons (sz : Nat) (x : List AV) (xs : List (List AV)) : ownV sz (x :: xs) = .ref 0 := rfl
@[simp] theorem ownH_cons (sz : Nat) (x : List AV) (xs : List (List AV)) : ownH sz (x :: xs) = [.arr sz (x :: xs)] := rfl
@[simp] theorem ownV_snoc (sz : Nat) (x : List AV) (xs : List (List AV)) : ownV sz (xs ++ [x]) = .ref 0 := by cases xs <;> rfl
@[simp] theorem ownH_snoc (sz : Nat) (x : List AV) (xs : List (List AV)) : ownH sz (xs ++ [x]) = [.arr sz (xs ++ [x])] := by cases xs <;> rfl

def head18 (rs : List Run) (c : Int) (i : Nat) (acc : List Run) : St := hd [(1, .int .i64 c), (5, ownV 11 (acc.map Run.c)), (8, .sl .bor 11 (rs.map Run.c)), (9, .int .i64 rs.length), (10, .int .i64 i)] (ownH 11 (acc.map Run.c)) 0

def head20 (rs : List Run) (c : Int) (i : Nat) (acc : List Run) : St := hd [(0, .sl .bor 11 (rs.map Run.c)), (1, .int .i64 c), (5, .ref 0), (6, .int .i64 i)] [.arr 11 (acc.map Run.c)] 0

end Go.Proofs.Ytgpedkkhndljiaa

namespace Go.Proofs.Ytgpedkkhndljiaa
open Go
set_option linter.unusedSimpArgs false
set_option maxRecDepth 100000

@[simp] theorem plain_want (ws : List Want) : rowsPlain (ws.map Want.c) = true := by simp [rowsPlain]
@[simp] theorem plain_run (ws : List Run) : rowsPlain (ws.map Run.c) = true := by simp [rowsPlain]
@[simp] theorem plain_ask (ws : List Ask) : rowsPlain (ws.map Ask.c) = true := by simp [rowsPlain]
@[simp] theorem plain_grant (ws : List Grant) : rowsPlain (ws.map Grant.c) = true := by simp [rowsPlain]
@[simp] theorem plain_text (ws : List T) : rowsPlain (ws.map fun s => [.str s]) = true := by simp [rowsPlain]

def Mate.zero : Mate := ⟨⟨#[]⟩, false, 0, false, 0, [], [], [], []⟩

def mateRise (m : Mate) : Mate := if mateValid m then { m with up := m.up || decide (m.clock < 1000000) } else .zero

theorem valid_clock {m : Mate} (h : mateValid m = true) : 0 ≤ m.clock ∧ m.clock ≤ 1000000 := by
  unfold mateValid mateParts at h
  simp only [Bool.and_eq_true] at h
  have := h.1.2.1
  simpa [inR] using this

/-- What is left of a run behind a fall. -/
def fallRun (machine : Bool) (r : Run) : Option Run :=
  if alive r then (if machine then (if sEq r.want.hold ⟨#[]⟩ then none else some { r with state := 2, left := 0 }) else some r) else none
def mateFall (m : Mate) (machine : Bool) : Mate := if mateValid m then { Mate.zero with name := m.name, clock := m.clock, runs := m.runs.filterMap (fallRun machine) } else .zero

def ownVi (id sz : Nat) (xs : List (List AV)) : AV := match xs with
  | [] => .sl .own sz []
  | _ => .ref id
@[simp] theorem ownVi_nil (id sz : Nat) : ownVi id sz [] = .sl .own sz [] := rfl
@[simp] theorem ownVi_cons (id sz : Nat) (x : List AV) (xs : List (List AV)) : ownVi id sz (x :: xs) = .ref id := rfl
@[simp] theorem ownVi_snoc (id sz : Nat) (x : List AV) (xs : List (List AV)) : ownVi id sz (xs ++ [x]) = .ref id := by cases xs <;> rfl

def zeroCells : List AV := [.str ⟨#[]⟩, .bool false, .int .i64 0, .bool false, .int .i64 0, .sl .own 7 [], .sl .own 11 [], .sl .own 4 [], .sl .own 4 []]
def fallCells (m : Mate) (acc : List Run) : List AV := [.str m.name, .bool false, .int .i64 m.clock, .bool false, .int .i64 0, .sl .own 7 [], ownVi 2 11 (acc.map Run.c), .sl .own 4 [], .sl .own 4 []]

def head36 (m : Mate) (b : Bool) (i : Nat) (acc : List Run) : St := hd [(1, .bool b), (4, .ptr 0 0 0), (5, .ptr 1 0 0), (18, .sl .bor 11 (m.runs.map Run.c)), (19, .int .i64 m.runs.length), (20, .int .i64 i)] (.box zeroCells :: .box (fallCells m acc) :: ownH 11 (acc.map Run.c)) 0

def fallCells3 (m : Mate) (acc : List Run) : List AV := [.str m.name, .bool false, .int .i64 m.clock, .bool false, .int .i64 0, .sl .own 7 [], ownVi 3 11 (acc.map Run.c), .sl .own 4 [], .sl .own 4 []]
def head32 (m : Mate) (b : Bool) (i : Nat) (acc : List Run) : St := hd [(1, .bool b), (2, .ptr 0 0 0), (4, .ptr 1 0 0), (5, .ptr 2 0 0), (6, .int .i64 i)] (.box (m.c .bor) :: .box zeroCells :: .box (fallCells3 m acc) :: ownH 11 (acc.map Run.c)) 0

theorem filterMap_len {α β : Type} (f : α → Option β) : ∀ xs : List α, (xs.filterMap f).length ≤ xs.length := fun xs => List.length_filterMap_le f xs

end Go.Proofs.Ytgpedkkhndljiaa

namespace Go.Proofs.Ytgpedkkhndljiaa
open Go
set_option linter.unusedSimpArgs false
set_option maxRecDepth 100000

def Land.zero : Land := ⟨0, [], []⟩
def zeroL : List AV := [.int .i64 0, .sl .own 5 [], .sl .own 3 []]

def head122 (l : Land) (m : Md) (i : Nat) (acc : List Place) : St :=
  hd [(1, .ptr 0 0 0), (2, .ptr 1 0 0), (3, ownVi 2 3 (acc.map (Place.c .own))), (11, .sl .bor 3 (l.places.map (Place.c m))), (12, .int .i64 l.places.length), (13, .int .i64 i)]
    (.box [.int .i64 l.time, .ref (if acc = [] then 2 else 3), .sl .bor 3 (l.places.map (Place.c m))] :: .box zeroL :: (ownH 3 (acc.map (Place.c .own)) ++ [.arr 5 (l.grants.map Grant.c)])) 0

theorem law122 (l : Land) (m : Md) (hl : l.small) : F 122 [.agg (l.c .bor m)] [] = some (.agg (l.c .own .own), []) := by
  refine F_run fn122 rfl ?_
  obtain ⟨h1, h2, h3⟩ := hl
  have e1 : l.grants.length * 64 ≤ 140737488355328 := by omega
  have f1 : l.grants.length ≤ 140737488355328 := by omega
  simp [c122, takeRows, e1, f1]
  refine (loop_list l.places (fun i (acc : List Place) => head122 l m i acc) (fun i acc => acc.length = i) (fun _ r acc => (.agg (({ l with places := acc ++ r } : Land).c .own .own), [])) (fun acc Y hacc => ?_) (fun i a r acc Y ha hi hr hacc hY => ?_) [] ?_ rfl ?_).trans ?_
  · rcases acc with _ | ⟨x, acc⟩
    · simp [head122, c122b0, zeroL]
    · simp [head122, c122b0, zeroL]
  · have hw : IntKind.i64.wrap ((i : Int) + 1) = (i : Int) + 1 := i64w (by omega) (by omega)
    obtain ⟨_, hg⟩ := List.getElem?_eq_some_iff.1 ha
    have hs := (h3 a (List.mem_of_getElem? ha)).wants
    have e2 : a.wants.length * 72 ≤ 140737488355328 := by omega
    have f2 : a.wants.length ≤ 140737488355328 := by omega
    have hb3 : (acc.length + 1) * 48 ≤ 140737488355328 := by omega
    have hb4 : acc.length + 1 ≤ 140737488355328 := by omega
    have hY' := fun s' h => hY (acc ++ [a]) s' (by simp [hacc]) h
    rcases acc with _ | ⟨x, acc⟩
    · simp [head122, c122b0, zeroL, hi, hg, takeRows, e2, f2]
      exact (hY' _ (by simp [head122, hw, zeroL])).trans (by simp)
    · simp at hb3 hb4
      simp [head122, c122b0, zeroL, hi, hg, takeRows, e2, f2, hb3, hb4]
      exact (hY' _ (by simp [head122, hw, zeroL])).trans (by simp)
  · simp [head122, zeroL]
  · unfold big; omega
  · simp

def head121 (l : Land) (m : Md) (i : Nat) (acc : List Place) : St :=
  hd [(1, .ptr 0 0 0), (2, .ptr 1 0 0), (3, .ptr 2 0 0), (4, .int .i64 i)]
    (.box (l.c .bor m) :: .box zeroL :: .box [.int .i64 l.time, .ref 3, ownVi 4 3 (acc.map (Place.c .own))] :: .arr 5 (l.grants.map Grant.c) :: ownH 3 (acc.map (Place.c .own))) 0

theorem law121 (l : Land) (m : Md) (hl : l.small) : F 121 [.agg (l.c .bor m)] [] = some (.agg (l.c .own .own), []) := by
  refine F_run fn121 rfl ?_
  obtain ⟨h1, h2, h3⟩ := hl
  have e1 : l.grants.length * 64 ≤ 140737488355328 := by omega
  have f1 : l.grants.length ≤ 140737488355328 := by omega
  simp [c121, takeRows, e1, f1]
  refine (loop_list l.places (fun i (acc : List Place) => head121 l m i acc) (fun i acc => acc.length = i) (fun _ r acc => (.agg (({ l with places := acc ++ r } : Land).c .own .own), [])) (fun acc Y hacc => ?_) (fun i a r acc Y ha hi hr hacc hY => ?_) [] ?_ rfl ?_).trans ?_
  · rcases acc with _ | ⟨x, acc⟩
    · simp [head121, c121b0, zeroL]
    · simp [head121, c121b0, zeroL]
  · have hw : IntKind.i64.wrap ((i : Int) + 1) = (i : Int) + 1 := i64w (by omega) (by omega)
    obtain ⟨_, hg⟩ := List.getElem?_eq_some_iff.1 ha
    have hs := (h3 a (List.mem_of_getElem? ha)).wants
    have e2 : a.wants.length * 72 ≤ 140737488355328 := by omega
    have f2 : a.wants.length ≤ 140737488355328 := by omega
    have hb3 : (acc.length + 1) * 48 ≤ 140737488355328 := by omega
    have hb4 : acc.length + 1 ≤ 140737488355328 := by omega
    have hY' := fun s' h => hY (acc ++ [a]) s' (by simp [hacc]) h
    rcases acc with _ | ⟨x, acc⟩
    · simp [head121, c121b0, zeroL, hi, hg, takeRows, e2, f2]
      exact (hY' _ (by simp [head121, hw, zeroL])).trans (by simp)
    · simp at hb3 hb4
      simp [head121, c121b0, zeroL, hi, hg, takeRows, e2, f2, hb3, hb4]
      exact (hY' _ (by simp [head121, hw, zeroL])).trans (by simp)
  · simp [head121, zeroL]
  · unfold big; omega
  · simp

def told (p : Place) : Parcel := ⟨1, p.berth, p.seen, p.wants, ⟨#[]⟩, ⟨#[]⟩, 0⟩
def landTick (l : Land) : Land × List Parcel :=
  if landOk l then (if l.time = 2000000 then (l, []) else ({ l with time := l.time + 2 }, l.places.map told)) else (.zero, [])

theorem landOk_time {l : Land} (h : landOk l = true) : 0 ≤ l.time ∧ l.time ≤ 2000000 := by
  unfold landOk at h
  simp only [Bool.and_eq_true] at h
  have := h.1
  simpa [inR] using this

def n41 (acc : List Parcel) : Nat := if acc = [] then 2 else 3
def head41 (l : Land) (i : Nat) (acc : List Parcel) : St :=
  hd [(1, .ptr 0 0 0), (2, .ptr 1 0 0), (4, ownVi 2 7 (acc.map (Parcel.c .own))), (22, .ref (n41 acc)), (23, .int .i64 l.places.length), (24, .int .i64 i)]
    (.box [.int .i64 (l.time + 2), .ref (n41 acc + 1), .ref (n41 acc)] :: .box zeroL :: (ownH 7 (acc.map (Parcel.c .own)) ++ [.arr 3 (l.places.map (Place.c .own)), .arr 5 (l.grants.map Grant.c)])) 0

def head44 (l : Land) (i : Nat) (acc : List Parcel) : St :=
  hd [(2, .ptr 0 0 0), (4, .ref 1), (5, .ptr 2 0 0), (6, .int .i64 i)]
    [.box zeroL, .arr 7 (acc.map (Parcel.c .own)), .box [.int .i64 (l.time + 2), .ref 3, .ref 4], .arr 5 (l.grants.map Grant.c), .arr 3 (l.places.map (Place.c .own))] 0

end Go.Proofs.Ytgpedkkhndljiaa

namespace Go.Proofs.Ytgpedkkhndljiaa
open Go
set_option linter.unusedSimpArgs false

/-- Ascending by a text. -/
def Asc {α : Type} (key : α → T) (xs : List α) : Prop := xs.Pairwise fun a b => sLt (key a) (key b) = true

def ascL {α : Type} (key : α → T) (pre : List α) (x : α) : Bool := match pre.getLast? with
  | none => true
  | some p => sLt (key p) (key x)

theorem asc_snoc {α : Type} (key : α → T) (pre : List α) (x : α) (h : Asc key pre) : ascL key pre x = true ↔ Asc key (pre ++ [x]) := by
  unfold Asc at *
  unfold ascL
  rw [List.pairwise_append]
  rcases List.eq_nil_or_concat pre with rfl | ⟨l, p, rfl⟩
  · simp
  · simp only [List.concat_eq_append, List.getLast?_append, List.getLast?_singleton, Option.some_or] at h ⊢
    constructor
    · intro hp
      refine ⟨h, List.pairwise_singleton _ _, fun a ha b hb => ?_⟩
      rw [List.mem_singleton.1 hb]
      rcases List.mem_append.1 ha with ha | ha
      · exact sLt_trans ((List.pairwise_append.1 h).2.2 a ha p (List.mem_singleton.2 rfl)) hp
      · rw [List.mem_singleton.1 ha]; exact hp
    · exact fun ⟨_, _, k⟩ => k p (List.mem_append_right _ (List.mem_singleton.2 rfl)) x (List.mem_singleton.2 rfl)

theorem ascR_eq (pre : List Run) (r : Run) : ascR pre r = ascL (fun x : Run => x.want.copy) pre r := by unfold ascR ascL; cases pre.getLast? <;> rfl
theorem ascA_eq (pre : List Ask) (r : Ask) : ascA pre r = ascL (fun x : Ask => x.hold) pre r := by unfold ascA ascL; cases pre.getLast? <;> rfl
theorem ascW_eq (pre : List Want) (r : Want) : ascW pre r = ascL (fun x : Want => x.copy) pre r := by unfold ascW ascL; cases pre.getLast? <;> rfl
theorem Asc.left {α : Type} {key : α → T} {a b : List α} (h : Asc key (a ++ b)) : Asc key a := (List.pairwise_append.1 h).1
theorem Asc.right {α : Type} {key : α → T} {a b : List α} (h : Asc key (a ++ b)) : Asc key b := (List.pairwise_append.1 h).2.1
theorem Asc.nil {α : Type} (key : α → T) : Asc key [] := List.Pairwise.nil

theorem runsGo_iff (c : Int) : ∀ (rs pre : List Run), Asc (·.want.copy) pre → (runsGo c pre rs = true ↔ (∀ r ∈ rs, runOk r c = true) ∧ Asc (·.want.copy) (pre ++ rs))
  | [], pre, h => by simp [runsGo, h]
  | r :: rs, pre, h => by
    have e := asc_snoc (fun x : Run => x.want.copy) pre r h
    rw [← ascR_eq] at e
    simp only [runsGo, Bool.and_eq_true]
    constructor
    · rintro ⟨h1, h2, h3⟩
      have h4 := e.1 h2
      obtain ⟨h5, h6⟩ := (runsGo_iff c rs (pre ++ [r]) h4).1 h3
      exact ⟨fun x hx => (List.mem_cons.1 hx).elim (fun q => q ▸ h1) (h5 x), by simpa using h6⟩
    · rintro ⟨h1, h2⟩
      have h3 : Asc (fun x : Run => x.want.copy) ((pre ++ [r]) ++ rs) := by simpa using h2
      exact ⟨h1 r List.mem_cons_self, e.2 h3.left, (runsGo_iff c rs (pre ++ [r]) h3.left).2 ⟨fun x hx => h1 x (List.mem_cons_of_mem _ hx), h3⟩⟩

theorem runsOk_iff (rs : List Run) (c : Int) : runsOk rs c = true ↔ rs.length ≤ 20 ∧ (∀ r ∈ rs, runOk r c = true) ∧ Asc (·.want.copy) rs := by
  simp only [runsOk, Bool.and_eq_true, decide_eq_true_eq]
  rw [runsGo_iff c rs [] (Asc.nil _)]
  rfl

theorem asksGo_iff (c : Int) : ∀ (l pre : List Ask), Asc (·.hold) pre → (asksGo c pre l = true ↔ (∀ r ∈ l, askOk c r = true) ∧ Asc (·.hold) (pre ++ l))
  | [], pre, h => by simp [asksGo, h]
  | r :: rs, pre, h => by
    have e := asc_snoc (fun x : Ask => x.hold) pre r h
    rw [← ascA_eq] at e
    simp only [asksGo, Bool.and_eq_true]
    constructor
    · rintro ⟨h1, h2, h3⟩
      have h4 := e.1 h2
      obtain ⟨h5, h6⟩ := (asksGo_iff c rs (pre ++ [r]) h4).1 h3
      exact ⟨fun x hx => (List.mem_cons.1 hx).elim (fun q => q ▸ h1) (h5 x), by simpa using h6⟩
    · rintro ⟨h1, h2⟩
      have h3 : Asc (fun x : Ask => x.hold) ((pre ++ [r]) ++ rs) := by simpa using h2
      exact ⟨h1 r List.mem_cons_self, e.2 h3.left, (asksGo_iff c rs (pre ++ [r]) h3.left).2 ⟨fun x hx => h1 x (List.mem_cons_of_mem _ hx), h3⟩⟩

theorem asksOk_iff (l : List Ask) (c : Int) : asksOk l c = true ↔ l.length ≤ 40 ∧ (∀ r ∈ l, askOk c r = true) ∧ Asc (·.hold) l := by
  simp only [asksOk, Bool.and_eq_true, decide_eq_true_eq]
  rw [asksGo_iff c l [] (Asc.nil _)]
  rfl

/-- No two have one hold. -/
def Apart (ws : List Want) : Prop := ws.Pairwise fun a b => sEq b.hold ⟨#[]⟩ = true ∨ sEq a.hold b.hold = false

theorem fresh_snoc (pre : List Want) (w : Want) (h : Apart pre) : freshW pre w = true ↔ Apart (pre ++ [w]) := by
  unfold Apart at *
  rw [List.pairwise_append]
  simp only [freshW, heldB, Bool.or_eq_true, Bool.not_eq_true', List.any_eq_false, Bool.not_eq_true]
  constructor
  · rintro (h1 | h1)
    · exact ⟨h, List.pairwise_singleton _ _, fun a _ b hb => by rw [List.mem_singleton.1 hb]; exact .inl h1⟩
    · exact ⟨h, List.pairwise_singleton _ _, fun a ha b hb => by rw [List.mem_singleton.1 hb]; exact .inr (h1 a ha)⟩
  · rintro ⟨_, _, k⟩
    by_cases e : sEq w.hold ⟨#[]⟩ = true
    · exact .inl e
    · exact .inr fun a ha => (k a ha w (List.mem_singleton.2 rfl)).resolve_left e

theorem wantsGo_iff : ∀ (l pre : List Want), Asc (·.copy) pre → Apart pre → (wantsGo pre l = true ↔ (∀ r ∈ l, wantOk r = true) ∧ Asc (·.copy) (pre ++ l) ∧ Apart (pre ++ l))
  | [], pre, h, k => by simp [wantsGo, h, k]
  | r :: rs, pre, h, k => by
    have e := asc_snoc (fun x : Want => x.copy) pre r h
    rw [← ascW_eq] at e
    have e2 := fresh_snoc pre r k
    simp only [wantsGo, Bool.and_eq_true]
    constructor
    · rintro ⟨h1, h2, h3, h7⟩
      have h4 := e.1 h2
      obtain ⟨h5, h6, h8⟩ := (wantsGo_iff rs (pre ++ [r]) h4 (e2.1 h3)).1 h7
      exact ⟨fun x hx => (List.mem_cons.1 hx).elim (fun q => q ▸ h1) (h5 x), by simpa using h6, by simpa using h8⟩
    · rintro ⟨h1, h2, h4⟩
      have h3 : Asc (fun x : Want => x.copy) ((pre ++ [r]) ++ rs) := by simpa using h2
      have h5 : Apart ((pre ++ [r]) ++ rs) := by simpa using h4
      have h6 : Apart (pre ++ [r]) := (List.pairwise_append.1 h5).1
      exact ⟨h1 r List.mem_cons_self, e.2 h3.left, e2.2 h6, (wantsGo_iff rs (pre ++ [r]) h3.left h6).2 ⟨fun x hx => h1 x (List.mem_cons_of_mem _ hx), h3, h5⟩⟩

theorem wantsOk_iff (ws : List Want) : wantsOk ws = true ↔ ws.length ≤ 10 ∧ (∀ w ∈ ws, wantOk w = true) ∧ Asc (·.copy) ws ∧ Apart ws := by
  simp only [wantsOk, Bool.and_eq_true, decide_eq_true_eq]
  rw [wantsGo_iff ws [] (Asc.nil _) List.Pairwise.nil]
  rfl

theorem isName_nil : isName ⟨#[]⟩ = false := by decide

theorem mateParts_iff (m : Mate) : mateParts m = true ↔ isName m.name = true ∧ inR m.clock 0 1000000 = true ∧ inR m.seen 0 1000000 = true ∧ wantsOk m.wants = true ∧ (m.known = true ∨ m.wants = []) ∧ runsOk m.runs m.clock = true ∧ asksOk m.asks m.clock = true ∧ asksOk m.gives m.clock = true := by
  simp only [mateParts, Bool.and_eq_true, Bool.or_eq_true, List.isEmpty_iff]

theorem mateValid_iff (m : Mate) : mateValid m = true ↔ mateParts m = true ∧ apartGo m.gives m.asks = true ∧ (m.up = true ∨ mateDown m = true) := by
  simp only [mateValid, Bool.and_eq_true, Bool.or_eq_true]

theorem asksOk_nil (c : Int) : asksOk [] c = true := by simp [asksOk, asksGo]
theorem wantsOk_nil : wantsOk [] = true := by simp [wantsOk, wantsGo]

theorem fallRun_ok {b : Bool} {r r' : Run} {c : Int} (h : runOk r c = true) (e : fallRun b r = some r') : runOk r' c = true ∧ r'.want = r.want ∧ (alive r' || !sEq r'.want.hold ⟨#[]⟩) = true ∧ alive r' = !b ∧ (b = false → r' = r ∧ alive r = true) := by
  unfold fallRun at e
  split at e
  case isFalse => cases e
  rename_i ha
  cases b
  · simp only [Bool.false_eq_true, if_false, Option.some.injEq] at e
    subst e
    exact ⟨h, rfl, by simp [ha], by simp [ha], fun _ => ⟨rfl, ha⟩⟩
  · simp only [if_true] at e
    split at e
    · cases e
    · rename_i hh
      simp only [Option.some.injEq] at e
      subst e
      have hh' : sEq r.want.hold ⟨#[]⟩ = false := by simpa using hh
      refine ⟨?_, rfl, by simp [hh'], by simp [alive, aliveS], fun h => by cases h⟩
      simp only [runOk, Bool.and_eq_true] at h ⊢
      obtain ⟨h1, h2, h3, h4, h5, h6, h7, h8⟩ := h
      exact ⟨h1, by simp [inR], by simp [inR], by simp, h5, h6, h7, by simp [alive, aliveS]⟩

theorem fall_valid {m : Mate} (b : Bool) (h : mateValid m = true) : mateValid (mateFall m b) = true := by
  obtain ⟨h1, h2, h3⟩ := (mateValid_iff m).1 h
  obtain ⟨p1, p2, p3, p4, p5, p6, p7, p8⟩ := (mateParts_iff m).1 h1
  obtain ⟨r1, r2, r3⟩ := (runsOk_iff _ _).1 p6
  unfold mateFall
  rw [if_pos h]
  refine (mateValid_iff _).2 ⟨(mateParts_iff _).2 ⟨p1, p2, by simp [Mate.zero, inR], wantsOk_nil, .inr rfl, (runsOk_iff _ _).2 ⟨?_, ?_, ?_⟩, asksOk_nil _, asksOk_nil _⟩, by simp [apartGo, Mate.zero], .inr ?_⟩
  · exact Nat.le_trans (List.length_filterMap_le _ _) r1
  · intro r hr
    obtain ⟨r0, k1, k2⟩ := List.mem_filterMap.1 hr
    exact (fallRun_ok (r2 r0 k1) k2).1
  · refine List.Pairwise.filterMap _ (fun a b' hab x hx y hy => ?_) r3
    · have hx' := hx
      have hy' := hy
      have e : ∀ {r r' : Run}, fallRun b r = some r' → r'.want = r.want := fun {r r'} e => by
        unfold fallRun at e
        split at e
        · split at e
          · split at e
            · cases e
            · rw [← Option.some.inj e]
          · rw [← Option.some.inj e]
        · cases e
      simp only at hab ⊢
      rw [e hx, e hy]; exact hab
  · simp only [mateDown, Mate.zero, Bool.not_false, List.isEmpty_nil, beq_self_eq_true, Bool.true_and, downRuns, List.all_eq_true]
    intro r hr
    obtain ⟨r0, k1, k2⟩ := List.mem_filterMap.1 hr
    exact (fallRun_ok (r2 r0 k1) k2).2.2.1

theorem rise_valid {m : Mate} (h : mateValid m = true) : mateValid (mateRise m) = true := by
  obtain ⟨h1, h2, h3⟩ := (mateValid_iff m).1 h
  unfold mateRise
  rw [if_pos h]
  refine (mateValid_iff _).2 ⟨h1, h2, ?_⟩
  simp only [Bool.or_eq_true]
  rcases h3 with h3 | h3
  · exact .inl (.inl h3)
  · exact .inr h3

theorem zero_invalid : mateValid .zero = false := by
  cases h : mateValid .zero with
  | false => rfl
  | true =>
    have := ((mateParts_iff _).1 ((mateValid_iff _).1 h).1).1
    simp [Mate.zero, isName_nil] at this
end Go.Proofs.Ytgpedkkhndljiaa

namespace Go.Proofs.Ytgpedkkhndljiaa
open Go
set_option linter.unusedSimpArgs false

section
variable {α : Type} (key : α → T)

/-- How many stand ahead of this key. -/
def ltCount (b : T) : List α → Nat
  | [] => 0
  | y :: ys => if sLt (key y) b then ltCount b ys + 1 else 0

/-- In its place; what has its key goes. -/
def putBy (x : α) : List α → List α
  | [] => [x]
  | y :: ys => if sLt (key y) (key x) then y :: putBy x ys else if sEq (key y) (key x) then x :: ys else x :: y :: ys

theorem ltCount_le (b : T) : ∀ l : List α, ltCount key b l ≤ l.length
  | [] => Nat.le_refl _
  | y :: ys => by
    unfold ltCount
    have := ltCount_le b ys
    split <;> simp <;> omega

def hitAt (b : T) (l : List α) : Bool := match l[ltCount key b l]? with
  | some y => sEq (key y) b
  | none => false

theorem putBy_take (x : α) : ∀ l : List α, putBy key x l = l.take (ltCount key (key x) l) ++ x :: l.drop (if hitAt key (key x) l then ltCount key (key x) l + 1 else ltCount key (key x) l)
  | [] => rfl
  | y :: ys => by
    by_cases h1 : sLt (key y) (key x) = true
    · have e1 : ltCount key (key x) (y :: ys) = ltCount key (key x) ys + 1 := by simp [ltCount, h1]
      have e2 : hitAt key (key x) (y :: ys) = hitAt key (key x) ys := by simp [hitAt, e1]
      rw [putBy, if_pos h1, putBy_take x ys, e1, e2]
      cases hitAt key (key x) ys <;> simp
    · have e1 : ltCount key (key x) (y :: ys) = 0 := by simp [ltCount, h1]
      have e2 : hitAt key (key x) (y :: ys) = sEq (key y) (key x) := by simp [hitAt, e1]
      rw [putBy, if_neg h1, e1, e2]
      cases sEq (key y) (key x) <;> simp

/-- What the loop that counts sees. -/
theorem ltCount_at {b : T} : ∀ {l : List α} {i : Nat} {y : α}, i < ltCount key b l → l[i]? = some y → sLt (key y) b = true
  | [], i, y, h, _ => by simp [ltCount] at h
  | z :: l, i, y, h, hy => by
    unfold ltCount at h
    split at h
    case isFalse => omega
    rename_i hz
    cases i with
    | zero => simp at hy; subst hy; exact hz
    | succ i => exact ltCount_at (l := l) (i := i) (by omega) (by simpa using hy)
theorem ltCount_stop {b : T} : ∀ {l : List α} {y : α}, l[ltCount key b l]? = some y → sLt (key y) b = false
  | [], y, h => by simp [ltCount] at h
  | z :: l, y, h => by
    by_cases hz : sLt (key z) b = true
    · have e1 : ltCount key b (z :: l) = ltCount key b l + 1 := by simp [ltCount, hz]
      rw [e1] at h
      exact ltCount_stop (by simpa using h)
    · have e1 : ltCount key b (z :: l) = 0 := by simp [ltCount, hz]
      rw [e1] at h
      simp at h
      subst h
      simpa using hz

theorem putBy_len (x : α) : ∀ l : List α, (putBy key x l).length ≤ l.length + 1
  | [] => Nat.le_refl _
  | y :: ys => by
    have := putBy_len x ys
    unfold putBy
    split
    · simp; omega
    · split <;> simp

theorem mem_putBy {x : α} : ∀ {l : List α} {z : α}, z ∈ putBy key x l → z = x ∨ z ∈ l
  | [], z, h => by simp [putBy] at h; exact .inl h
  | y :: ys, z, h => by
    unfold putBy at h
    split at h
    · rcases List.mem_cons.1 h with h | h
      · exact .inr (h ▸ List.mem_cons_self)
      · exact (mem_putBy h).imp id (List.mem_cons_of_mem _)
    · split at h
      · exact (List.mem_cons.1 h).imp id (List.mem_cons_of_mem _)
      · exact List.mem_cons.1 h

/-- Nobody has the key: a place more. -/
def Lacks (b : T) (l : List α) : Prop := ∀ y ∈ l, key y ≠ b

theorem putBy_perm {x : α} : ∀ {l : List α}, Lacks key (key x) l → (putBy key x l).Perm (l ++ [x])
  | [], _ => .refl _
  | y :: ys, h => by
    have h2 : Lacks key (key x) ys := fun z hz => h z (List.mem_cons_of_mem _ hz)
    unfold putBy
    split
    · exact (putBy_perm h2).cons y
    · rw [if_neg (by rw [sEq_ne (h y List.mem_cons_self)]; simp)]
      exact (List.perm_append_comm (l₁ := [x]) (l₂ := y :: ys))

theorem putBy_asc {x : α} : ∀ {l : List α}, Asc key l → Asc key (putBy key x l)
  | [], _ => List.pairwise_singleton _ _
  | y :: ys, h => by
    have h1 := List.pairwise_cons.1 h
    unfold putBy
    split
    · rename_i hlt
      refine List.pairwise_cons.2 ⟨fun z hz => ?_, putBy_asc h1.2⟩
      rcases mem_putBy key hz with rfl | hz
      · exact hlt
      · exact h1.1 z hz
    · rename_i hlt
      split
      · rename_i he
        have e := (sEq_iff _ _).1 he
        exact List.pairwise_cons.2 ⟨fun z hz => by rw [← e]; exact h1.1 z hz, h1.2⟩
      · rename_i he
        have hne : key y ≠ key x := fun e => he ((sEq_iff _ _).2 e)
        have hxy : sLt (key x) (key y) = true := by
          cases q : sLt (key x) (key y) with
          | true => rfl
          | false => exact absurd (sLt_total (by simpa using hlt) q) hne
        refine List.pairwise_cons.2 ⟨fun z hz => ?_, h⟩
        rcases List.mem_cons.1 hz with rfl | hz
        · exact hxy
        · exact sLt_trans hxy (h1.1 z hz)

/-- Somebody has it. -/
theorem putBy_set {x y : α} : ∀ {l : List α} {i : Nat}, Asc key l → l[i]? = some y → key y = key x → putBy key x l = l.set i x
  | [], i, _, h, _ => by simp at h
  | z :: l, i, ha, h, he => by
    have h1 := List.pairwise_cons.1 ha
    cases i with
    | zero =>
      simp at h
      subst h
      rw [putBy, if_neg (by rw [he, sLt_irrefl]; simp), if_pos (by rw [he]; exact sEq_self _)]
      rfl
    | succ i =>
      have hl : l[i]? = some y := by simpa using h
      have := h1.1 y (List.mem_of_getElem? hl)
      rw [he] at this
      rw [putBy, if_pos this, putBy_set h1.2 hl he]
      rfl

theorem asc_inj {l : List α} (h : Asc key l) {i j : Nat} {x y : α} (hi : l[i]? = some x) (hj : l[j]? = some y) (he : key x = key y) : i = j := by
  have hpw := List.pairwise_iff_getElem.1 h
  obtain ⟨li, xi⟩ := List.getElem?_eq_some_iff.1 hi
  obtain ⟨lj, yj⟩ := List.getElem?_eq_some_iff.1 hj
  rcases Nat.lt_trichotomy i j with q | q | q
  · have := hpw i j li lj q
    rw [xi, yj, he, sLt_irrefl] at this
    cases this
  · exact q
  · have := hpw j i lj li q
    rw [xi, yj, he, sLt_irrefl] at this
    cases this
end

/-! ### Sorting -/
theorem keysApart_of {c : Nat} : ∀ {xs : List (List AV)}, Diff c xs → (∀ r ∈ xs, ∃ s, keyAt c r = some s) → keysApart c xs = true
  | [], _, _ => rfl
  | r :: rs, h, hk => by
    have h1 := List.pairwise_cons.1 h
    simp only [keysApart, Bool.and_eq_true, List.all_eq_true, Bool.not_eq_true']
    obtain ⟨s, hs⟩ := hk r List.mem_cons_self
    exact ⟨by rw [hs]; rfl, fun x hx => sEq_ne (h1.1 x hx), keysApart_of h1.2 fun x hx => hk x (List.mem_cons_of_mem _ hx)⟩

theorem sort_typed {α : Type} (f : α → List AV) (key : α → T) (c : Nat) (hf : ∀ a, keyAt c (f a) = some (key a)) {xs ys : List α} (hp : ys.Perm xs) (ha : Asc key ys) : keysApart c (xs.map f) = true ∧ sortRows c (xs.map f) = ys.map f := by
  have hd : Diff c (ys.map f) := by
    unfold Diff
    rw [List.pairwise_map]
    refine ha.imp fun {a b} h => ?_
    rw [hf, hf]
    exact sLt_ne h
  have hd2 : Diff c (xs.map f) := (List.Perm.pairwise_iff (fun h e => h e.symm) (hp.map f)).1 hd
  have hs : (ys.map f).Pairwise (fun a b => rowLt c a b = true) := by
    rw [List.pairwise_map]
    refine ha.imp fun {a b} h => ?_
    unfold rowLt
    rw [hf, hf]
    exact h
  refine ⟨keysApart_of hd2 fun r hr => ?_, sorted_one ((sortRows_perm c _).trans (hp.map f).symm) (sortRows_sorted hd2) hs⟩
  obtain ⟨a, _, rfl⟩ := List.mem_map.1 hr
  exact ⟨_, hf a⟩
end Go.Proofs.Ytgpedkkhndljiaa

namespace Go.Proofs.Ytgpedkkhndljiaa
open Go
set_option linter.unusedSimpArgs false
set_option maxRecDepth 100000

def seenAt (b : T) (ps : List Place) : Int := match ps[ltCount (·.berth) b ps]? with
  | some p => if sEq p.berth b then IntKind.i64.wrap (p.seen + 1) else 1
  | none => 1
def putPlace (b : T) (ws : List Want) (ps : List Place) : List Place := putBy (·.berth) ⟨b, seenAt b ps, ws⟩ ps
def landPut (l : Land) (b : T) (ws : List Want) : Land := { l with places := putPlace b ws l.places }
def matePut (l : Land) (b : T) (ws : List Want) : Land × Int :=
  if landOk l then (if isName b && wantsOk ws then (if landOk (landPut l b ws) then (landPut l b ws, 0) else (l, 3)) else (l, 2)) else (.zero, 1)

theorem placesGo_asc : ∀ (r pre : List Place), Asc (·.berth) pre → placesGo pre r = true → Asc (·.berth) (pre ++ r)
  | [], pre, h, _ => by simpa using h
  | p :: r, pre, h, k => by
    simp only [placesGo, Bool.and_eq_true] at k
    have e : ascP pre p = ascL (fun x : Place => x.berth) pre p := by unfold ascP ascL; cases pre.getLast? <;> rfl
    have h2 := (asc_snoc (fun x : Place => x.berth) pre p h).1 (by rw [← e]; exact k.2.1)
    have := placesGo_asc r (pre ++ [p]) h2 k.2.2.2
    simpa using this

theorem landOk_asc {l : Land} (h : landOk l = true) : Asc (·.berth) l.places ∧ l.places.length ≤ 4 ∧ l.grants.length ≤ 40 := by
  simp only [landOk, Bool.and_eq_true, decide_eq_true_eq] at h
  have := placesGo_asc l.places [] (Asc.nil _) h.2.2.2.2.2
  exact ⟨by simpa using this, h.2.2.2.1, h.2.2.1⟩

def head72 (l : Land) (m : Md) (b : T) (ws : List Want) (k : Nat) : St :=
  hd [(1, .str b), (2, .sl .bor 7 (ws.map Want.c)), (3, .ptr 0 0 0), (6, .ptr 1 0 0), (8, .ptr 2 0 0), (9, .int .i64 k)]
    [.box (l.c .bor m), .box zeroL, .box [.int .i64 l.time, .ref 3, .ref 4], .arr 5 (l.grants.map Grant.c), .arr 3 (l.places.map (Place.c .own))] 0

theorem law72 (l : Land) (m : Md) (b : T) (ws : List Want) (hl : l.small) (hw : ws.length ≤ 1048576) : F 72 [.agg (l.c .bor m), .str b, .sl .bor 7 (ws.map Want.c)] [] = some (.tup [.agg ((matePut l b ws).1.c .own .own), .int .i64 (matePut l b ws).2], []) := by
  refine F_run fn72 rfl ?_
  have w1 := law24 l m hl
  have w2 := law7 ws (by unfold big; omega)
  have w3 := law121 l m hl
  simp only [Land.c] at w1 w3
  unfold matePut
  cases q1 : landOk l
  · simp [c72, w1, q1, Land.zero]
  cases q2 : isName b
  · simp [c72, w1, w3, q1, q2]
  cases q3 : wantsOk ws
  · simp [c72, w1, w2, w3, q1, q2, q3]
  obtain ⟨hasc, hp4, hg40⟩ := landOk_asc q1
  have hb : ws.length * 72 ≤ 140737488355328 := by omega
  have hb2 : ws.length ≤ 140737488355328 := by omega
  simp [c72, w1, w2, w3, q1, q2, q3]
  have hK := ltCount_le (fun p : Place => p.berth) b l.places
  have hat := fun i y => ltCount_at (fun p : Place => p.berth) (b := b) (l := l.places) (i := i) (y := y)
  have hst := fun y => ltCount_stop (fun p : Place => p.berth) (b := b) (l := l.places) (y := y)
  have hpt := putBy_take (fun p : Place => p.berth) ⟨b, seenAt b l.places, ws⟩ l.places
  have hse : seenAt b l.places = match l.places[ltCount (fun p : Place => p.berth) b l.places]? with
    | some p => if sEq p.berth b then IntKind.i64.wrap (p.seen + 1) else 1
    | none => 1 := rfl
  have hhit : hitAt (fun p : Place => p.berth) b l.places = match l.places[ltCount (fun p : Place => p.berth) b l.places]? with
    | some y => sEq y.berth b
    | none => false := by unfold hitAt; cases l.places[ltCount (fun p : Place => p.berth) b l.places]? <;> rfl
  generalize ltCount (fun p : Place => p.berth) b l.places = K at *
  refine (loop_by (σ := Nat) (fun k => head72 l m b ws k) (fun k => k ≤ K) (fun k => K - k) (fun _ => _) (fun k Y hk hY => ?_) 0 ?_ (Nat.zero_le _) ?_).trans rfl
  · have hw1 : IntKind.i64.wrap ((k : Int) + 1) = (k : Int) + 1 := i64w (by omega) (by omega)
    rcases Nat.lt_or_ge k K with h | h
    · have hkl : k < l.places.length := by omega
      have hklI : (k : Int) < l.places.length := by omega
      have hx : l.places[k]? = some l.places[k] := List.getElem?_eq_getElem hkl
      have hlt := hat k _ h hx
      simp [head72, c72b0, zeroL, hklI, hkl, hlt]
      refine hY (k + 1) _ (by omega) (by omega) ?_
      simp [head72, zeroL, hw1]
    · obtain rfl : k = K := by omega
      have f1 : k * 48 ≤ 140737488355328 := by omega
      have f2 : k ≤ 140737488355328 := by omega
      have f3 : (k + 1) * 48 ≤ 140737488355328 := by omega
      have f4 : k + 1 ≤ 140737488355328 := by omega
      have hklI : (k : Int) ≤ l.places.length := by omega
      have hfin : ∀ (x : Land), landPut l b ws = x → F 24 [.agg (x.c .bor .own)] [] = some (.bool (landOk x), []) := fun x hx => law24 x .own ⟨by rw [← hx]; exact hl.grants, by rw [← hx]; have := putBy_len (fun p : Place => p.berth) ⟨b, seenAt b l.places, ws⟩ l.places; simp only [landPut, putPlace]; omega, fun p hp => by
        rw [← hx] at hp
        rcases mem_putBy (fun p : Place => p.berth) hp with rfl | hp
        · exact ⟨hw⟩
        · exact hl.each p hp⟩
      cases hx : l.places[k]? with
      | none =>
        have hlen : l.places.length = k := by have := List.getElem?_eq_none_iff.1 hx; omega
        have t1 : (l.places.map (Place.c .own)).take l.places.length = l.places.map (Place.c .own) := List.take_of_length_le (by simp)
        have t2 : (l.places.map (Place.c .own)).drop l.places.length = [] := List.drop_of_length_le (by simp)
        rw [hx] at hse hhit
        simp only at hse hhit
        rw [hhit, hse] at hpt
        have hpl : landPut l b ws = ⟨l.time, l.grants, l.places ++ [⟨b, 1, ws⟩]⟩ := by
          simp only [landPut, putPlace, hse, hpt]
          simp [← hlen]
        have w24 := hfin _ hpl
        rw [hpl]
        generalize hq : landOk ⟨l.time, l.grants, l.places ++ [⟨b, 1, ws⟩]⟩ = q at w24
        simp only [Land.c, List.map_append, List.map_cons, List.map_nil, Place.c] at w24
        subst hlen
        simp [head72, c72b0, zeroL, takeRows, hb, hb2, slBounds, f1, f2, f3, f4, t1, t2, w24]
        cases q <;> simp [w3]
      | some y =>
        have hkl : k < l.places.length := (List.getElem?_eq_some_iff.1 hx).1
        have hy := (List.getElem?_eq_some_iff.1 hx).2
        have hns := hst y hx
        have hpos : 0 < l.places.length - k := by omega
        have hposI : (0 : Int) < ((l.places.length - k : Nat) : Int) := by omega
        have g1 : (k + 1 + (l.places.length - k)) * 48 ≤ 140737488355328 := by omega
        have g2 : k + 1 + (l.places.length - k) ≤ 140737488355328 := by omega
        have g3 : (k + 1 + (l.places.length - k - 1)) * 48 ≤ 140737488355328 := by omega
        have g4 : k + 1 + (l.places.length - k - 1) ≤ 140737488355328 := by omega
        have hkle : k ≤ l.places.length := by omega
        have hmin : min k l.places.length = k := Nat.min_eq_left hkle
        have hsum : k + (l.places.length - k) = l.places.length := by omega
        have t3 : ((l.places.map (Place.c .own)).drop k).take (l.places.length - k) = (l.places.map (Place.c .own)).drop k := List.take_of_length_le (by simp)
        have t4 : ∀ (r : List AV) (Y : List (List AV)), (List.replicate k r ++ Y).drop k = Y := fun r Y => List.drop_left' (by simp)
        rw [hx] at hse hhit
        simp only at hse hhit
        rw [hhit] at hpt
        cases hc : sEq y.berth b
        · rw [hc] at hse hpt
          simp only [Bool.false_eq_true, if_false] at hse hpt
          rw [hse] at hpt
          have hpl : landPut l b ws = ⟨l.time, l.grants, l.places.take k ++ ⟨b, 1, ws⟩ :: l.places.drop k⟩ := by
            simp only [landPut, putPlace, hse, hpt]
          have w24 := hfin _ hpl
          rw [hpl]
          generalize hq : landOk ⟨l.time, l.grants, l.places.take k ++ ⟨b, 1, ws⟩ :: l.places.drop k⟩ = q at w24
          simp only [Land.c, List.map_append, List.map_cons, List.map_take, List.map_drop, Place.c] at w24
          simp [head72, c72b0, zeroL, takeRows, hb, hb2, slBounds, f1, f2, f3, f4, hklI, hkl, hy, hns, hc, hpos, hposI, g1, g2, hsum, t3, t4, hkle, hmin, w24]
          cases q <;> simp [w3]
        · rw [hc] at hse hpt
          simp only [if_true] at hse hpt
          rw [hse] at hpt
          have hpl : landPut l b ws = ⟨l.time, l.grants, l.places.take k ++ ⟨b, IntKind.i64.wrap (y.seen + 1), ws⟩ :: l.places.drop (k + 1)⟩ := by
            simp only [landPut, putPlace, hse, hpt]
          have w24 := hfin _ hpl
          rw [hpl]
          generalize hq : landOk ⟨l.time, l.grants, l.places.take k ++ ⟨b, IntKind.i64.wrap (y.seen + 1), ws⟩ :: l.places.drop (k + 1)⟩ = q at w24
          simp only [Land.c, List.map_append, List.map_cons, List.map_take, List.map_drop, Place.c] at w24
          have g5 : (k + 1 + (l.places.length - (k + 1))) * 48 ≤ 140737488355328 := by omega
          have g6 : k + 1 + (l.places.length - (k + 1)) ≤ 140737488355328 := by omega
          have h1I : (1 : Int) ≤ ((l.places.length - k : Nat) : Int) := by omega
          have hsum2 : k + 1 + (l.places.length - k - 1) = l.places.length := by omega
          have t5 : ((l.places.map (Place.c .own)).drop (k + 1)).take (l.places.length - k - 1) = (l.places.map (Place.c .own)).drop (k + 1) := List.take_of_length_le (by simp; omega)
          have t6 : ∀ (r : List AV), (List.replicate k r ++ (l.places.map (Place.c .own)).drop k).drop (k + 1) = (l.places.map (Place.c .own)).drop (k + 1) := fun r => by
            rw [List.drop_append]
            simp
          simp [head72, c72b0, zeroL, takeRows, hb, hb2, slBounds, f1, f2, f3, f4, hklI, hkl, hy, hns, hc, hpos, hposI, g1, g2, g3, g4, g5, g6, hsum, hsum2, t3, t4, t5, t6, h1I, hkle, hmin, w24]
          cases q <;> simp [w3]
  · simp [head72, zeroL]
  · unfold big; omega

/-- The last one of this name. -/
def lastAt (b : T) : List Place → Nat → Int → Int
  | [], _, a => a
  | p :: r, i, a => lastAt b r (i + 1) (if sEq p.berth b then i else a)

theorem lastAt_cases (b : T) : ∀ (ps : List Place) (i : Nat) (a : Int), (lastAt b ps i a = a ∧ ∀ p ∈ ps, p.berth ≠ b) ∨ ∃ j p, ps[j]? = some p ∧ p.berth = b ∧ lastAt b ps i a = ((i + j : Nat) : Int)
  | [], i, a => .inl ⟨rfl, fun p hp => by simp at hp⟩
  | p :: r, i, a => by
    unfold lastAt
    rcases lastAt_cases b r (i + 1) (if sEq p.berth b then i else a) with ⟨h1, h2⟩ | ⟨j, q, h1, h2, h3⟩
    · by_cases hp : p.berth = b
      · exact .inr ⟨0, p, rfl, hp, by rw [h1, hp, sEq_self]; simp⟩
      · refine .inl ⟨by rw [h1, sEq_ne hp]; simp, fun x hx => ?_⟩
        rcases List.mem_cons.1 hx with rfl | hx
        · exact hp
        · exact h2 x hx
    · exact .inr ⟨j + 1, q, by simpa using h1, h2, by rw [h3]; congr 1; omega⟩

def head70 (l : Land) (m : Md) (b : T) (ws : List Want) (i : Nat) (at_ : Int) : St :=
  hd [(1, .str b), (3, .ptr 0 0 0), (6, .ptr 1 0 0), (8, .ptr 2 0 0), (9, .ptr 3 0 0), (10, .int .i64 at_), (34, .int .i64 l.places.length), (35, .int .i64 i)]
    [.box (l.c .bor m), .box zeroL, .box [.int .i64 l.time, .ref 4, .ref 5], .box [.str b, .int .i64 1, .ref 6], .arr 5 (l.grants.map Grant.c), .arr 3 (l.places.map (Place.c .own)), .arr 7 (ws.map Want.c)] 0

theorem seenAt_hit {b : T} {ps : List Place} {j : Nat} {p : Place} (ha : Asc (·.berth) ps) (hj : ps[j]? = some p) (hp : p.berth = b) : seenAt b ps = IntKind.i64.wrap (p.seen + 1) := by
  have hlt : j ≤ ltCount (fun p : Place => p.berth) b ps ∧ ps[ltCount (fun p : Place => p.berth) b ps]? = some p := by
    induction ps generalizing j with
    | nil => simp at hj
    | cons q r ih =>
      have h1 := List.pairwise_cons.1 ha
      cases j with
      | zero =>
        simp at hj
        subst hj
        simp [ltCount, hp, sLt_irrefl]
      | succ j =>
        have hj' : r[j]? = some p := by simpa using hj
        have h2 := h1.1 p (List.mem_of_getElem? hj')
        simp only at h2
        rw [hp] at h2
        obtain ⟨h3, h4⟩ := ih h1.2 hj'
        simp [ltCount, h2, h3, h4]
  unfold seenAt
  rw [hlt.2]
  simp [hp]

theorem seenAt_miss {b : T} {ps : List Place} (h : ∀ p ∈ ps, p.berth ≠ b) : seenAt b ps = 1 := by
  unfold seenAt
  split
  · rename_i p hp
    rw [sEq_ne (h p (List.mem_of_getElem? hp))]
    rfl
  · rfl

theorem law70 (l : Land) (m : Md) (b : T) (ws : List Want) (hl : l.small) (hw : ws.length ≤ 1048576) : F 70 [.agg (l.c .bor m), .str b, .sl .bor 7 (ws.map Want.c)] [] = some (.tup [.agg ((matePut l b ws).1.c .own .own), .int .i64 (matePut l b ws).2], []) := by
  refine F_run fn70 rfl ?_
  have w1 := law23 l m hl
  have w2 := law6 ws (by unfold big; omega)
  have w3 := law122 l m hl
  simp only [Land.c] at w1 w3
  unfold matePut
  cases q1 : landOk l
  · simp [c70, w1, q1, Land.zero]
  cases q2 : isName b
  · simp [c70, w1, w3, q1, q2]
  cases q3 : wantsOk ws
  · simp [c70, w1, w2, w3, q1, q2, q3]
  obtain ⟨hasc, hp4, hg40⟩ := landOk_asc q1
  have hb : ws.length * 72 ≤ 140737488355328 := by omega
  have hb2 : ws.length ≤ 140737488355328 := by omega
  have hfin : ∀ (x : Land), landPut l b ws = x → F 23 [.agg (x.c .bor .own)] [] = some (.bool (landOk x), []) := fun x hx => law23 x .own ⟨by rw [← hx]; exact hl.grants, by rw [← hx]; have := putBy_len (fun p : Place => p.berth) ⟨b, seenAt b l.places, ws⟩ l.places; simp only [landPut, putPlace]; omega, fun p hp => by
    rw [← hx] at hp
    rcases mem_putBy (fun p : Place => p.berth) hp with rfl | hp
    · exact ⟨hw⟩
    · exact hl.each p hp⟩
  simp [c70, w1, w2, w3, q1, q2, q3, takeRows, hb, hb2]
  refine (loop_list l.places (fun i (a : Int) => head70 l m b ws i a) (fun i a => lastAt b (l.places.drop i) i a = lastAt b l.places 0 (-1)) (fun _ _ _ => _) (fun a Y hinv => ?_) (fun i p r a Y hp hi hr hinv hY => ?_) (-1) ?_ rfl ?_).trans rfl
  · rw [List.drop_length] at hinv
    simp only [lastAt] at hinv
    rcases lastAt_cases b l.places 0 (-1) with ⟨h1, h2⟩ | ⟨j, p, h1, h2, h3⟩
    · rw [h1] at hinv
      subst hinv
      have hse := seenAt_miss h2
      have hpl : landPut l b ws = ⟨l.time, l.grants, putBy (fun p : Place => p.berth) ⟨b, 1, ws⟩ l.places⟩ := by
        simp only [landPut, putPlace, hse]
      have w23 := hfin _ hpl
      rw [hpl]
      have hsort := sort_typed (Place.c .own) (fun p : Place => p.berth) 0 (fun _ => rfl) (putBy_perm (fun p : Place => p.berth) (x := ⟨b, 1, ws⟩) (l := l.places) h2) (putBy_asc (fun p : Place => p.berth) hasc)
      simp only [List.map_append, List.map_cons, List.map_nil, Place.c] at hsort
      obtain ⟨s1, s2⟩ := hsort
      generalize hpp : putBy (fun p : Place => p.berth) ⟨b, 1, ws⟩ l.places = pp at *
      generalize hq : landOk ⟨l.time, l.grants, pp⟩ = q at w23
      simp only [Land.c] at w23
      have e1 : (l.places.length + 1) * 48 ≤ 140737488355328 := by omega
      have e2 : l.places.length + 1 ≤ 140737488355328 := by omega
      have e3 : l.places.length + 1 ≤ 1000000000 := by omega
      simp [head70, c70b0, zeroL, takeRows, e1, e2, e3, isRef, sortTab, s1, s2, w23]
      cases q <;> simp [w3]
    · rw [h3] at hinv
      simp only [Nat.zero_add] at hinv
      subst hinv
      obtain ⟨hj, hg⟩ := List.getElem?_eq_some_iff.1 h1
      have hse := seenAt_hit hasc h1 h2
      have hpl : landPut l b ws = ⟨l.time, l.grants, l.places.set j ⟨b, IntKind.i64.wrap (p.seen + 1), ws⟩⟩ := by
        simp only [landPut, putPlace, hse]
        rw [putBy_set (fun p : Place => p.berth) hasc h1 h2]
      have w23 := hfin _ hpl
      rw [hpl]
      generalize hq : landOk ⟨l.time, l.grants, l.places.set j ⟨b, IntKind.i64.wrap (p.seen + 1), ws⟩⟩ = q at w23
      simp only [Land.c, List.map_set, Place.c] at w23
      have hj0 : (0 : Int) ≤ (j : Int) := by omega
      simp [head70, c70b0, zeroL, hj, hg, hj0, w23]
      cases q <;> simp [w3, List.map_set]
  · have hw1 : IntKind.i64.wrap ((i : Int) + 1) = (i : Int) + 1 := i64w (by omega) (by omega)
    obtain ⟨_, hg⟩ := List.getElem?_eq_some_iff.1 hp
    have hiI : (i : Int) < l.places.length := by omega
    have hd : l.places.drop i = p :: l.places.drop (i + 1) := by rw [List.drop_eq_getElem_cons hi, hg]
    rw [hd] at hinv
    simp only [lastAt] at hinv
    cases hc : sEq p.berth b
    · rw [hc] at hinv
      simp [head70, c70b0, zeroL, hiI, hi, hg, hc]
      refine hY a _ (by simpa using hinv) ?_
      simp [head70, zeroL, hw1]
    · rw [hc] at hinv
      simp [head70, c70b0, zeroL, hiI, hi, hg, hc]
      refine hY i _ (by simpa using hinv) ?_
      simp [head70, zeroL, hw1]
  · simp [head70, zeroL]
  · unfold big; omega
end Go.Proofs.Ytgpedkkhndljiaa

namespace Go.Proofs.Ytgpedkkhndljiaa
open Go
set_option linter.unusedSimpArgs false
set_option maxRecDepth 100000

theorem zeroLand_small' : Land.zero.small := ⟨by simp [Land.zero], by simp [Land.zero], by simp [Land.zero]⟩

theorem matePut_small {l : Land} {b : T} {ws : List Want} (h : l.small) (hw : ws.length ≤ 1048576) : (matePut l b ws).1.small ∧ (matePut l b ws).1.places.length ≤ 5 := by
  unfold matePut
  split
  case isFalse => exact ⟨zeroLand_small', by simp [Land.zero]⟩
  rename_i hv
  have h4 := (landOk_asc hv).2.1
  split
  case isFalse => exact ⟨h, by simp only; omega⟩
  split
  case isFalse => exact ⟨h, by simp only; omega⟩
  have hlen := putBy_len (fun p : Place => p.berth) ⟨b, seenAt b l.places, ws⟩ l.places
  refine ⟨⟨h.grants, by simp only [landPut, putPlace]; omega, fun p hp => ?_⟩, by simp only [landPut, putPlace]; omega⟩
  rcases mem_putBy (fun p : Place => p.berth) hp with rfl | hp
  · exact ⟨hw⟩
  · exact h.each p hp

theorem put_law (l : Land) (hw : l.wf) (b : T) (_ : b.size ≤ maxLen) (ws : List Want) (hws : ListWf Want.wf ws) : F 180 [.agg (l.c .bor .bor), .str b, .sl .bor 7 (ws.map Want.c)] [] = some (.bool true, []) := by
  obtain ⟨r, h1, h2⟩ := law25 l 1048576 hw (by omega) (by omega)
  refine F_run fn180 rfl ?_
  simp only [Land.c] at h1
  by_cases hbl : 1048576 < b.size
  · have hbI : (1048576 : Int) < b.size := by omega
    simp [c180, hbI]
  have hbI : ¬ (1048576 : Int) < b.size := by omega
  rcases h2 with h2 | ⟨h2, h3, hs⟩
  · have h' : ¬ (0 ≤ r) := by omega
    simp [c180, hbI, h1, h2, h']
  have h' : ¬ (r < 0) := by omega
  have hwl : ws.length ≤ 9223372036854775807 := by have := hws.len; unfold maxLen at this; omega
  have k1 := law8 ws r hwl h2 h3
  rcases Int.lt_or_le (szWants ws r) 0 with k2 | k2
  · have k' : ¬ (0 ≤ szWants ws r) := by omega
    simp [c180, hbI, h1, h2, h', k1, k2, k']
  have k' : ¬ (szWants ws r < 0) := by omega
  have hn : ws.length ≤ 1048576 := szWants_len k2 hwl h2 h3
  have hnb : ws.length < big := by unfold big; omega
  obtain ⟨hg, hg4⟩ := matePut_small (b := b) hs hn
  have w1 := law21 .bor l hs
  have w2 := law22 .own .own l hs
  have w3 := law70 l .own b ws hs hn
  have w4 := law72 l .own b ws hs hn
  have x1 := law4 ws hn
  have x2 := law5 ws hnb
  generalize (matePut l b ws).1 = g at *
  generalize (matePut l b ws).2 = code at *
  have w5 := law22 .own .own g hg
  have b1 := markLandK_le (k := 1) hs
  have b2 := le_markLandK l 1
  have b3 := markPlaceK_le g.places (1 + 5 * g.grants.length) hg.each
  have b4 := le_markLandK g 1
  have b0 := hg.grants
  have b7 : markLandK g 1 ≤ 1000000000 := by unfold markLandK; omega
  have w7 := law43 l 1 hs (by omega) (by omega)
  have w8 := law43 g 1 hg (by omega) (by omega)
  have w9 := law39 g 1 hg (by omega) (by omega)
  have x3 := law71 ws (markLandK l 1) (by omega) hn (by omega)
  have n1 : ¬ (markLandK l 1 < 0) := by omega
  have n2 : ¬ (markLandK g 1 < 0) := by omega
  have n3 : ¬ (markLandK l 1 + 7 * (ws.length : Int) < 0) := by omega
  simp only [Land.c] at w1 w2 w3 w4 w5
  simp only [Land.refs, Land.arrs, List.map_cons, List.map_nil] at w7 w8
  generalize hml : markLand g 1 = gm at w8 w9
  simp only [Land.c] at w9
  have hx : gm.time = g.time := by subst hml; rfl
  rw [hx] at w9
  simp [c180, hbI, h1, h2, h', k1, k2, k', w1, w2, w3, w4, w5, w7, w8, w9, x1, x2, x3, n1, n2, n3]
end Go.Proofs.Ytgpedkkhndljiaa

namespace Go.Proofs.Ytgpedkkhndljiaa
open Go Go.RowKit
set_option linter.unusedSimpArgs false

/-- What is frozen lies in this world. -/
def FzIn (fz : List (Nat × Obj)) (w : World) : Prop := ∀ p ∈ fz, p.1 < w.heap.size ∧ w.heap[p.1]? = some p.2

/-- A call that goes in, and comes back as this says. -/
def Ret (P : Program) (f : FuncId) (vs : Array Value) (w : World) (R : Value → World → Prop) : Prop :=
  (callFunc f vs).run P w = .ok (.enter f vs) w ∧ Calls P f vs w fun e w' => ∃ v, e = .returned v ∧ Below w.heap.size w w' ∧ R v w'

theorem Ret.callable {P : Program} {f : FuncId} {vs : Array Value} {w : World} {R R' : Value → World → Prop} (h : Ret P f vs w R) (hr : ∀ v w', Below w.heap.size w w' → R v w' → R' v w') : Callable P f vs w R' := by
  intro o a next Q hnext
  rw [h.1, Oper.upon_enter]
  refine h.2.mono fun e w' he => ?_
  obtain ⟨v, rfl, hb, hR⟩ := he
  exact hnext v w' (hr v w' hb hR)

structure PrimsOk (P : Program) (num : Nat → Option FuncId) (fz : List (Nat × Obj)) : Prop where
  sfx : ∀ f, num 222 = some f → ∀ (s p : ByteArray) (w : World), FzIn fz w → s.size ≤ 9223372036854775807 → Ret P f #[.string s, .string p] w fun v _ => v = .bool (Lib.hasSuffix s.data.toList p.data.toList)
  spl : ∀ f, num 220 = some f → ∀ (s sep : ByteArray) (w : World), FzIn fz w → s.size < 4294967281 → 1 ≤ sep.size → Ret P f #[.string s, .string sep] w fun v w' => v = .slice (some ⟨w.heap.size, 0, none⟩) (splitT s sep).length (splitT s sep).length ∧ ∃ t, w'.heap[w.heap.size]? = some (.cells ((splitT s sep).map Value.string).toArray t (0, 0))
  joi : ∀ f, num 230 = some f → ∀ (a : Option Addr) (c : Nat) (xs : List ByteArray) (sep : ByteArray) (w : World), FzIn fz w → (xs = [] ∨ ∃ b o, a = some ⟨b, o, none⟩ ∧ b < w.heap.size ∧ xs.length ≤ c ∧ ∀ (j : Nat) x, xs[j]? = some x → w.cell? ⟨b, o + j, none⟩ = some (.string x)) →
    xs.length ≤ 140737488355328 → (joinT xs sep).size ≤ 140737488355328 → Ret P f #[.slice a xs.length c, .string sep] w fun v _ => v = .string (joinT xs sep)
  ito : ∀ f, num 231 = some f → ∀ (n : Int) (w : World), FzIn fz w → -9223372036854775808 ≤ n → n ≤ 9223372036854775807 → Ret P f #[.int .i64 n] w fun v _ => v = .string (itoaT n)
  ato : ∀ f, num 221 = some f → ∀ (s : ByteArray) (w : World), FzIn fz w → s.size ≤ 281474976710656 → Ret P f #[.string s] w fun v _ => v = .int .i64 (numT s)

theorem Mem.fzIn {cx : Cx} {h : Nat → Option AO} {ep : Nat} {g : Gh} {w : World} (m : Mem cx h ep g w) : FzIn cx.fz w := fun _ hp => ⟨(m.fz_now hp).1, (m.fz_now hp).2.1⟩

/-- Behind a call that gives back one plain value. -/
theorem post_plain {cx : Cx} {h : Nat → Option AO} {g : Gh} {w w' : World} (m : Mem cx h 0 g w) (hw : cx.w0 = w) (h0 : cx.base = 0) (hb : Below w.heap.size w w') {v : Value} {r : AV} (hr : Cl w' g.I v r (fun _ => False)) (ht : r.isTup = false) :
    ∃ I N S fo, Post cx w' v r [] I N S fo := by
  refine ⟨g.I, g.N, fun _ => False, fun _ _ => False, ⟨?_, h0.symm, m.I_up, m.I_new, m.I_N, m.N_up, m.N_new, fun b h => Nat.lt_of_lt_of_le (m.N_lt b h) hb.size, .one _ _ _ (.one _ _ _ hr (fun _ h => h.elim)) ht, fun k o h => by simp at h, fun _ h => h.elim, fun _ _ _ h => h.elim, fun _ _ _ h => h.elim, fun _ _ _ _ _ h => h.elim⟩⟩
  rw [hw]
  exact ⟨hb.os, hb.tape, hb.output, hb.size, fun b h1 _ => hb.block b h1⟩

/-- Behind a call that gives back a new row of texts. -/
theorem post_texts {cx : Cx} {h : Nat → Option AO} {g : Gh} {w w' : World} (m : Mem cx h 0 g w) (hw : cx.w0 = w) (h0 : cx.base = 0) (hb : Below w.heap.size w w') {xs : List ByteArray} {t : TypeId} (hmax : xs.length ≤ maxLen)
    (hh : w'.heap[w.heap.size]? = some (.cells (xs.map Value.string).toArray t (0, 0))) :
    ∃ I N S fo, Post cx w' (.slice (some ⟨w.heap.size, 0, none⟩) xs.length xs.length) (.sl .own 1 (xs.map fun x => [.str x])) [] I N S fo := by
  have hlt := (Array.getElem?_eq_some_iff.1 hh).1
  have hca : ∀ i j c, cellAt (xs.map fun x => [AV.str x]) i j = some c → ∃ x, xs[i]? = some x ∧ j = 0 ∧ c = .str x := fun i j c hc => by
    obtain ⟨row, h1, h2⟩ := cellAt_some.1 hc
    rw [List.getElem?_map] at h1
    cases hi : xs[i]? with
    | none => rw [hi] at h1; cases h1
    | some x =>
      rw [hi] at h1
      simp only [Option.map_some, Option.some.injEq] at h1
      subst h1
      cases j with
      | zero => exact ⟨x, rfl, rfl, by simpa using h2.symm⟩
      | succ j => simp at h2
  refine ⟨g.I, fun b => g.N b ∨ b = w.heap.size, fun b => b = w.heap.size, fun _ _ => False, ⟨?_, h0.symm, m.I_up, m.I_new, fun b h => .inl (m.I_N b h), fun b h => .inl (m.N_up b h), fun b h => ?_, fun b h => ?_, .one _ _ _ (.one _ _ _ ?_ (fun x h => .inr h)) rfl, fun k o h => by simp at h, fun x h => ?_, fun _ _ _ h => h.elim, fun _ _ _ _ h => h, fun _ _ _ _ _ h => h.elim⟩⟩
  · rw [hw]
    exact ⟨hb.os, hb.tape, hb.output, hb.size, fun b h1 _ => hb.block b h1⟩
  · rcases h with h | h
    · exact m.N_new b h
    · exact .inr (by rw [hw, h]; exact Nat.le_refl _)
  · rcases h with h | h
    · exact Nat.lt_of_lt_of_le (m.N_lt b h) hb.size
    · rw [h]; exact hlt
  · have e : xs.length = (xs.map fun x => [AV.str x]).length := by simp
    rw [e]
    have e2 : (xs.map fun x => [AV.str x]).length = xs.length := by simp
    refine .own 1 _ w.heap.size _ (xs.map Value.string).toArray t (fun i _ => (xs[i]?.map Value.string).getD undef) (fun _ _ _ => False) _ hh (by simp) (by rw [e2]; exact hmax) (by simp) (fun row hr => ?_) (fun i j c hc => ?_) (fun i j c hc => ?_) (fun _ _ _ _ _ _ _ _ _ h => h.elim) (fun _ _ _ _ h => h) (fun x => ?_)
    · obtain ⟨x, _, rfl⟩ := List.mem_map.1 hr; rfl
    · obtain ⟨x, h1, rfl, rfl⟩ := hca i j c hc
      simp [h1]
    · obtain ⟨x, h1, rfl, rfl⟩ := hca i j c hc
      simp only [h1, Option.map_some, Option.getD_some]
      exact .str _ _ (fun _ h => h)
    · constructor
      · exact fun h => .inl h
      · rintro (h | ⟨_, _, _, _, h⟩)
        · exact h
        · exact h.elim
  · subst h
    refine ⟨.inr (by rw [hw]; exact Nat.le_refl _), fun hI => ?_⟩
    have := m.I_lt _ hI
    omega

theorem textsOf_cells : ∀ {rows : List (List AV)} {xs : List ByteArray}, textsOf rows = some xs → xs.length = rows.length ∧ ∀ (j : Nat) x, xs[j]? = some x → cellAt rows j 0 = some (.str x)
  | [], xs, h => by
    simp only [textsOf, Option.some.injEq] at h
    subst h
    exact ⟨rfl, fun j x hx => by simp at hx⟩
  | [] :: _, xs, h => by simp [textsOf] at h
  | (c :: d :: e) :: r, xs, h => by
    cases c <;> simp [textsOf] at h
  | [c] :: r, xs, h => by
    cases c <;> try (simp [textsOf] at h; done)
    rename_i s
    simp only [textsOf] at h
    cases hr : textsOf r with
    | none => rw [hr] at h; cases h
    | some ys =>
      rw [hr] at h
      simp only [Option.some.injEq] at h
      subst h
      obtain ⟨h1, h2⟩ := textsOf_cells hr
      refine ⟨by simp [h1], fun j x hx => ?_⟩
      cases j with
      | zero =>
        simp only [List.getElem?_cons_zero, Option.some.injEq] at hx
        subst hx
        exact cellAt_some.2 ⟨_, rfl, rfl⟩
      | succ j =>
        obtain ⟨row, h3, h4⟩ := cellAt_some.1 (h2 j x (by simpa using hx))
        exact cellAt_some.2 ⟨row, by simpa using h3, h4⟩

theorem prims_contract {P : Program} {num : Nat → Option FuncId} {fz : List (Nat × Obj)} (hp : PrimsOk P num fz) : ∀ k f args objs r outs, num k = some f → prim k args objs = some (r, outs) → Contract P num fz f args objs r outs := by
  intro k f args objs r outs hn h
  cases objs with
  | cons _ _ => cases h
  | nil =>
  replace h : primGo k args = some (r, outs) := h
  intro cx g w vs hP hnum hfz hw0 hbase hh0 hv0 hu m hsz hrel
  subst hP; subst hnum; subst hfz
  have hfi := m.fzIn
  have hbase0 : cx.base = 0 := hbase
  have one : ∀ (c : AV), args = [c] → ∃ v, vs = #[v] ∧ SRel cx.num w cx.R g (startHeap [] 0) 0 v c := fun c hc => by
    subst hc
    have : vs.size = 1 := hsz
    obtain ⟨v, rfl⟩ : ∃ v, vs = #[v] := ⟨vs[0], by apply Array.ext' ; match vs, this with | ⟨[x]⟩, _ => rfl⟩
    exact ⟨v, rfl, hrel 0 v c rfl rfl⟩
  have two : ∀ (c d : AV), args = [c, d] → ∃ v u, vs = #[v, u] ∧ SRel cx.num w cx.R g (startHeap [] 0) 0 v c ∧ SRel cx.num w cx.R g (startHeap [] 0) 0 u d := fun c d hc => by
    subst hc
    have : vs.size = 2 := hsz
    obtain ⟨v, u, rfl⟩ : ∃ v u, vs = #[v, u] := by match vs, this with | ⟨[x, y]⟩, _ => exact ⟨x, y, rfl⟩
    exact ⟨v, u, rfl, hrel 0 v c rfl rfl, hrel 1 u d rfl rfl⟩
  unfold primGo at h
  split at h
  · subst k
    split at h
    case h_2 => cases h
    rename_i s p
    split at h
    case isFalse => cases h
    rename_i hs
    obtain ⟨rfl, rfl⟩ := Prod.mk.inj (Option.some.inj h)
    obtain ⟨v, u, rfl, r1, r2⟩ := two _ _ rfl
    cases r1; cases r2
    refine (hp.sfx f hn s p w hfi hs).callable fun v w' hb hv => ?_
    subst hv
    exact post_plain m hw0 hbase0 hb (.bool _ _ fun _ h => h) rfl
  split at h
  · subst k
    split at h
    case h_2 => cases h
    rename_i s sep
    split at h
    case isFalse => cases h
    rename_i hs
    obtain ⟨rfl, rfl⟩ := Prod.mk.inj (Option.some.inj h)
    obtain ⟨v, u, rfl, r1, r2⟩ := two _ _ rfl
    cases r1; cases r2
    refine (hp.spl f hn s sep w hfi hs.1 hs.2).callable fun v w' hb hv => ?_
    obtain ⟨rfl, t, ht⟩ := hv
    have hlen : (splitT s sep).length = Lib.countB s sep + 1 := Lib.splitB_all sep hs.2 0 _ s rfl
    have hle := Lib.countB_le sep hs.2 s.size s (Nat.le_refl _)
    exact post_texts m hw0 hbase0 hb (by rw [hlen]; unfold maxLen; omega) ht
  split at h
  · subst k
    split at h
    case h_2 => cases h
    rename_i rows sep
    split at h
    case h_2 => cases h
    rename_i xs hx
    split at h
    case isFalse => cases h
    rename_i hs
    obtain ⟨rfl, rfl⟩ := Prod.mk.inj (Option.some.inj h)
    obtain ⟨v, u, rfl, r1, r2⟩ := two _ _ rfl
    obtain ⟨hl, hc⟩ := textsOf_cells hx
    cases r2
    cases r1 with
    | sl _ _ _ _ h1 hm _ _ =>
      have hB := hm rfl
      cases hB with
      | nil _ _ a cap =>
        have : xs = [] := by simpa using hl
        subst this
        refine (hp.joi f hn a cap [] sep w hfi (.inl rfl) hs.1 hs.2).callable fun v w' hb hv => ?_
        subst hv
        exact post_plain m hw0 hbase0 hb (.str _ _ fun _ h => h) rfl
      | sl _ _ _ b o cap us hcap hb' hrow hcell hin =>
        rw [← hl]
        refine (hp.joi f hn (some ⟨b, o, none⟩) cap xs sep w hfi (.inr ⟨b, o, rfl, ?_, by omega, fun j x hj => ?_⟩) hs.1 hs.2).callable fun v w' hb hv => ?_
        · have h3 := m.R_old b hb'
          rw [hw0] at h3
          exact h3.1
        · have h3 := hc j x hj
          have h4 := hcell j 0 _ h3
          have h5 := hin j 0 _ h3
          rw [Nat.mul_one, Nat.add_zero] at h4
          rw [h4]
          generalize us j 0 = uv at h5
          cases h5
          rfl
        · subst hv
          exact post_plain m hw0 hbase0 hb (.str _ _ fun _ h => h) rfl
  split at h
  · subst k
    split at h
    case h_2 => cases h
    rename_i n
    split at h
    case isFalse => cases h
    rename_i hs
    obtain ⟨rfl, rfl⟩ := Prod.mk.inj (Option.some.inj h)
    obtain ⟨v, rfl, r1⟩ := one _ rfl
    cases r1
    refine (hp.ito f hn n w hfi hs.1 hs.2).callable fun v w' hb hv => ?_
    subst hv
    exact post_plain m hw0 hbase0 hb (.str _ _ fun _ h => h) rfl
  split at h
  · subst k
    split at h
    case h_2 => cases h
    rename_i s
    split at h
    case isFalse => cases h
    rename_i hs
    obtain ⟨rfl, rfl⟩ := Prod.mk.inj (Option.some.inj h)
    obtain ⟨v, rfl, r1⟩ := one _ rfl
    cases r1
    refine (hp.ato f hn s w hfi hs).callable fun v w' hb hv => ?_
    subst hv
    exact post_plain m hw0 hbase0 hb (.int _ _ _ fun _ h => h) rfl
  · cases h

/-- A program that calls none of them. -/
theorem primsOk_none {P : Program} {num : Nat → Option FuncId} {fz : List (Nat × Obj)} (h1 : num 222 = none) (h2 : num 220 = none) (h3 : num 230 = none) (h4 : num 231 = none) (h5 : num 221 = none) : PrimsOk P num fz :=
  ⟨fun f h => (by rw [h1] at h; cases h), fun f h => (by rw [h2] at h; cases h), fun f h => (by rw [h3] at h; cases h), fun f h => (by rw [h4] at h; cases h), fun f h => (by rw [h5] at h; cases h)⟩

/-- What is asked of the sorts, comparison by comparison. -/
theorem srtAll_of {P : Program} {num : Nat → Option FuncId} (h : ∀ e ∈ sortTab, ∀ f t fs, num e.1 = some f → num (1000 + e.1) = some t → num kSort = some fs → SortOk P fs f t e.2.1 e.2.2.1 e.2.2.2) : SrtAll P num :=
  fun kl o c sz hm f t fs h1 h2 h3 => h (kl, o, c, sz) (by simpa using hm) f t fs h1 h2 h3
theorem srtAll_none {P : Program} {num : Nat → Option FuncId} (h : num kSort = none) : SrtAll P num := fun _ _ _ _ _ f t fs _ _ h3 => by rw [h] at h3; cases h3
end Go.Proofs.Ytgpedkkhndljiaa
