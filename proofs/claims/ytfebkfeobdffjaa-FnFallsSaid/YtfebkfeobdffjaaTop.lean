/- The whole: what the abstract machine says of a call, the program does. -/
import Derived.Test.YtfebkfeobdffjaaFun
namespace Go.Proofs.Ytfebkfeobdffjaa
open Go Go.RowKit
set_option linter.unusedSimpArgs false

section
variable {cx : Cx} {nt : Nat}

def resOf (tmps : Array Value) : ResultVar → Sem Value
  | .tmp t => pure (tmps.getD t undef)
  | .cell a t => do loadVar t (← asAddr (tmps.getD a undef))

theorem res_rel {s : St} {g : Gh} {a : Act} {w : World} (c : Corr cx nt s g a w) : ∀ {rs : List ResultVar} {cs : List CRes} {vs : List AV}, chkRes cx.P rs cs = true → resVals s cs = some vs →
    ∃ us : List Value, (rs.mapM (resOf a.tmps)).run cx.P w = .ok us w ∧ us.length = vs.length ∧ ∀ (i : Nat) (u : Value) (d : AV), us[i]? = some u → vs[i]? = some d → SRel cx.num w cx.R g s.heap s.ep u d
  | [], [], vs, _, h => by
    simp only [resVals, Option.some.injEq] at h
    subst h
    exact ⟨[], rfl, rfl, fun i u d hu => by simp at hu⟩
  | .tmp t :: rs, .tmp t' :: cs, vs, hc, h => by
    simp only [chkRes, Bool.and_eq_true, beq_iff_eq] at hc
    obtain ⟨rfl, hc⟩ := hc
    simp only [resVals, resVal] at h
    cases h1 : resVals s cs with
    | none => rw [h1] at h; cases h
    | some vs' =>
      rw [h1] at h
      simp only [Option.some.injEq] at h
      subst h
      obtain ⟨us, h2, h3, h4⟩ := res_rel c hc h1
      refine ⟨a.tmps.getD t undef :: us, by simp [List.mapM_cons, resOf, h2], by simp [h3], fun i u d hu hd => ?_⟩
      cases i with
      | zero => simp only [List.getElem?_cons_zero, Option.some.injEq] at hu hd; subst hu; subst hd; exact c.slots t
      | succ i => exact h4 i u d (by simpa using hu) (by simpa using hd)
  | .cell t ty :: rs, .cell t' sz agg :: cs, vs, hc, h => by
    simp only [chkRes, Bool.and_eq_true, beq_iff_eq] at hc
    obtain ⟨rfl, hsz, hag, hc⟩ := hc
    obtain ⟨i0, hi, hi2⟩ := sizeB_some hsz
    simp only [decide_eq_true_eq] at hi2
    subst hi2
    split at hag
    case h_2 => cases hag
    rename_i d hd
    simp only [Bool.and_eq_true, beq_iff_eq, Bool.or_eq_true] at hag
    obtain ⟨rfl, h1s⟩ := hag
    simp only [resVals, resVal] at h
    have hr := c.slots t
    generalize s.slots t = c1 at h hr
    generalize hv : a.tmps.getD t undef = v1 at hr
    cases c1 <;> try (cases h; done)
    rename_i id i off
    cases i <;> cases off <;> try (cases h; done)
    simp only at h
    cases hh : s.heap id with
    | none => rw [hh] at h; cases h
    | some ob =>
      rw [hh] at h
      cases ob <;> try (cases h; done)
      rename_i cells
      simp only at h
      split at h
      · cases h
      · rename_i v hlv
        split at hlv
        case isFalse => cases hlv
        rename_i hlen
        cases h1 : resVals s cs with
        | none => rw [h1] at h; cases h
        | some vs' =>
          rw [h1] at h
          simp only [Option.some.injEq] at h
          subst h
          obtain ⟨us, h2, h3, h4⟩ := res_rel c hc h1
          obtain ⟨b, cur, e, h5, h6, h7, h8, h9, h10⟩ := c.mem.objs id _ hh
          cases hr with
          | ptr _ _ _ _ _ hu hv' =>
            obtain ⟨b', h11, h12⟩ := hv' _ hh
            rw [h5] at h11
            simp only [Value.pointer.injEq, Option.some.injEq, Addr.mk.injEq, and_true] at h11
            subst h11
            obtain ⟨hle, hrv⟩ := loadFrom_some (fun hf => h1s.resolve_left (by simp [hf])) hlv
            have hcell : ∀ j, j < i0.size → w.cell? ⟨b, 0 + j, none⟩ = some (cur.getD j undef) := fun j hj => by
              rw [cell_of_heap h6, Nat.zero_add, Array.getD_eq_getD_getElem?, Array.getElem?_eq_getElem (by omega)]; rfl
            have hrun := run_loadVar (w := w) hd hi b 0 (fun j => cur.getD j undef) hcell (fun hf => h1s.resolve_left (by simp [hf]))
            have hcr : ∀ j, j < i0.size → ∃ d0, cells[j]? = some d0 ∧ (cur.getD j undef).oneCell' = true ∧ SRel cx.num w cx.R g s.heap s.ep (cur.getD j undef) d0 := fun j hj => by
              have hcj : cells[j]? = some (cells[j]'(by omega)) := List.getElem?_eq_getElem (by omega)
              have huj : cur[j]? = some (cur.getD j undef) := by rw [Array.getD_eq_getD_getElem?, Array.getElem?_eq_getElem (by omega)]; rfl
              obtain ⟨h13, h14⟩ := h10 j _ _ huj hcj
              exact ⟨_, hcj, h13, h14⟩
            refine ⟨_ :: us, by simp only [List.mapM_cons, resOf, hv, h12, asAddr, Sem.run_bind, Sem.run_pure, Result.andThen_ok, hrun, h2]; rfl, by simp [h3], fun i u d0 hu hd0 => ?_⟩
            cases i with
            | succ i => exact h4 i u d0 (by simpa using hu) (by simpa using hd0)
            | zero =>
              simp only [List.getElem?_cons_zero, Option.some.injEq] at hu hd0
              subst hu; subst hd0
              rw [hrv]
              cases hdd : aggB d with
              | true =>
                simp only [if_true, List.drop_zero]
                refine .agg _ _ (by simp; omega) (fun j v hv => ?_) (fun j v c0 hv hc0 => ?_)
                · simp only [List.getElem?_toArray, List.getElem?_map] at hv
                  cases hj : (List.range i0.size)[j]? with
                  | none => rw [hj] at hv; cases hv
                  | some j' =>
                    rw [hj] at hv
                    simp only [Option.map_some, Option.some.injEq] at hv
                    obtain ⟨hlt, he⟩ := List.getElem?_eq_some_iff.1 hj
                    simp only [List.length_range] at hlt
                    simp only [List.getElem_range] at he
                    subst he; subst hv
                    exact (hcr j hlt).choose_spec.2.1
                · simp only [List.getElem?_toArray, List.getElem?_map] at hv
                  cases hj : (List.range i0.size)[j]? with
                  | none => rw [hj] at hv; cases hv
                  | some j' =>
                    rw [hj] at hv
                    simp only [Option.map_some, Option.some.injEq] at hv
                    obtain ⟨hlt, he⟩ := List.getElem?_eq_some_iff.1 hj
                    simp only [List.length_range] at hlt
                    simp only [List.getElem_range] at he
                    subst he; subst hv
                    obtain ⟨d1, h13, _, h14⟩ := hcr j hlt
                    rw [List.getElem?_take, if_pos hlt, h13] at hc0
                    obtain rfl := Option.some.inj hc0
                    exact h14
              | false =>
                simp only [Bool.false_eq_true, if_false, List.drop_zero]
                have h1z : i0.size = 1 := h1s.resolve_left (by simp [hdd])
                obtain ⟨d1, h13, _, h14⟩ := hcr 0 (by omega)
                rw [show cells.getD 0 .any = d1 by simp [List.getD, h13]]
                exact h14
  | [], _ :: _, _, hc, _ => by simp [chkRes] at hc
  | .tmp _ :: _, [], _, hc, _ => by simp [chkRes] at hc
  | .cell _ _ :: _, [], _, hc, _ => by simp [chkRes] at hc
  | .tmp _ :: _, .cell _ _ _ :: _, _, hc, _ => by simp [chkRes] at hc
  | .cell _ _ :: _, .tmp _ :: _, _, hc, _ => by simp [chkRes] at hc
end

theorem fn_contract {P : Program} {num : Nat → Option FuncId} {f : FuncId} {fn : Func} {c : CFn} {cl : Callee} (hf : P.funcs[f]? = some fn) (hc : chkFn P num fn c = true) (hm : P.follows .mixedOrders = true)
    (hK : ∀ (k : Nat) (f : FuncId) (args : List AV) (objs : List AO) (r : AV) (outs : List (Option AO)), num k = some f → cl k args objs = some (r, outs) → Contract P num f args objs r outs)
    {args : List AV} {objs : List AO} {r : AV} {outs : List (Option AO)} (h : runFn cl c args objs = some (r, outs)) : Contract P num f args objs r outs := by
  intro cx g w vs hP hnum hw0 hbase hh0 hv0 hu m hsz hrel
  subst hP; subst hnum
  simp only [chkFn, Bool.and_eq_true, bne_iff_ne, ne_eq, beq_iff_eq] at hc
  obtain ⟨hname, hnt, hbody⟩ := hc
  split at hbody
  case h_2 => cases hbody
  rename_i b hb
  simp only [Bool.and_eq_true] at hbody
  obtain ⟨hcode, hres⟩ := hbody
  simp only [runFn] at h
  split at h
  case isFalse => cases h
  rename_i hal
  cases hrun : runCode cl c.body ⟨startSlots args 0, startHeap objs 0, 0, objs.length, objs.length⟩ with
  | none => rw [hrun] at h; cases h
  | some p =>
    obtain ⟨ex, s⟩ := p
    rw [hrun] at h
    have hend : (ex = .ret ∨ ex = .normal) ∧ endFn c objs.length s = some (r, outs) := by
      cases ex with
      | ret => exact ⟨.inl rfl, h⟩
      | normal => exact ⟨.inr rfl, h⟩
      | exit id => cases h
    obtain ⟨hex, hend⟩ := hend
    intro o a next Q hnext
    have hcf : (callFunc f vs).run cx.P w = .ok (.enter f vs) w := by
      simp [callFunc, hf, hname, hb]
    rw [hcf, Oper.upon_enter]
    refine Calls.mono (R := fun e w' => match e with | .returned v => (∃ I N S fo, Post cx w' v r outs I N S fo) | _ => False) ?_ (fun e w' he => by
      cases e with
      | returned v => exact hnext v w' he
      | panicked _ => exact he.elim
      | outgrown => exact he.elim)
    refine calls_of_wp hf hb (code_goes hm hK c.body b hcode _ ex s _ w _ hrun ⟨g, ⟨?_, rfl, fun t => ?_, m⟩, hu, hbase.symm⟩ (fun a' w' hg => ?_))
    · show (vs ++ Array.replicate (fn.ntmps - vs.size) undef).size = c.nt
      simp; omega
    · show SRel cx.num w cx.R g (startHeap objs 0) 0 ((vs ++ Array.replicate (fn.ntmps - vs.size) undef).getD t undef) (startSlots args 0 t)
      rw [startSlots_get, if_pos (Nat.zero_le _), Nat.sub_zero]
      by_cases ht : t < args.length
      · have h1 : vs[t]? = some (vs[t]'(by omega)) := Array.getElem?_eq_getElem (by omega)
        have h2 : args[t]? = some (args[t]'ht) := List.getElem?_eq_getElem ht
        have h3 : (vs ++ Array.replicate (fn.ntmps - vs.size) undef).getD t undef = vs[t]'(by omega) := by
          rw [Array.getD_eq_getD_getElem?, Array.getElem?_append_left (by omega), h1]; rfl
        rw [h3, show args.getD t .any = args[t]'ht by simp [List.getD, h2]]
        exact hrel t _ _ h1 h2
      · rw [show args.getD t .any = .any by simp [List.getD, List.getElem?_eq_none (Nat.le_of_not_lt ht)]]
        exact .any _
    · obtain ⟨g', hcr, hu', hb'⟩ := hg
      unfold endFn at hend
      cases hrv : resVals s c.res with
      | none => rw [hrv] at hend; cases hend
      | some rvs =>
        rw [hrv] at hend
        simp only at hend
        cases hst : shutT s.heap rvs with
        | none => rw [hst] at hend; cases hend
        | some q =>
          obtain ⟨ws, is⟩ := q
          rw [hst] at hend
          simp only at hend
          cases hsb : shutBoxes s.heap 0 objs.length with
          | none => rw [hsb] at hend; cases hend
          | some js =>
            rw [hsb] at hend
            simp only at hend
            split at hend
            case isFalse => cases hend
            rename_i hcond
            simp only [Bool.and_eq_true, List.all_eq_true] at hcond
            simp only [Option.some.injEq, Prod.mk.injEq] at hend
            obtain ⟨hr1, hr2⟩ := hend
            obtain ⟨us, hrs, hul, hur⟩ := res_rel hcr hres hrv
            have hpost := end_post hcr.mem hul hur hst (by rw [hbase]; exact hsb) hcond.1 (fun i hi cells ho => by
              have := hcond.2 i hi
              rw [ho] at this
              rw [hbase]
              simpa using this)
            have hresults : (results fn a'.tmps).run cx.P w' = .ok (if hz : us.length = 1 then us[0]'(by omega) else .tuple us.toArray) w' := by
              have hmm : (fn.results.mapM (resOf a'.tmps)).run cx.P w' = .ok us.toArray w' := by
                rw [Array.mapM_eq_mapM_toList, Sem.run_map, hrs, Result.andThen_ok]
              have he : results fn a'.tmps = (do
                  let vs ← fn.results.mapM (resOf a'.tmps)
                  pure (if h : vs.size = 1 then vs[0] else .tuple vs)) := by
                unfold results
                congr 1
              rw [he]
              simp [hmm]
            have hpost' : ∃ I N S fo, Post cx w' (if hz : us.length = 1 then us[0]'(by omega) else .tuple us.toArray) r outs I N S fo := by
              rw [hbase] at hpost
              rw [← hr1, ← hr2]
              exact hpost
            rcases hex with rfl | rfl
            · exact ⟨hcr.defers, _, hresults, hpost'⟩
            · exact ⟨hcr.defers, _, hresults, hpost'⟩

/-- A program and its abstract one. -/
structure Tied (P : Program) (num : Nat → Option FuncId) (p : CProg) : Prop where
  mixed : P.follows .mixedOrders = true
  fns : ∀ k c, p.fn k = some c → ∀ f, num k = some f → ∃ fn, P.funcs[f]? = some fn ∧ chkFn P num fn c = true
  prims : ∀ k f args objs r outs, num k = some f → p.fn k = none → p.prim k args objs = some (r, outs) → Contract P num f args objs r outs

theorem Tied.call {P : Program} {num : Nat → Option FuncId} {p : CProg} (t : Tied P num p) : ∀ (d k : Nat) (f : FuncId) (args : List AV) (objs : List AO) (r : AV) (outs : List (Option AO)), num k = some f → p.call d k args objs = some (r, outs) → Contract P num f args objs r outs
  | 0, k, f, args, objs, r, outs, _, h => by cases h
  | d + 1, k, f, args, objs, r, outs, hn, h => by
    simp only [CProg.call] at h
    cases hc : p.fn k with
    | none => rw [hc] at h; exact t.prims k f args objs r outs hn hc h
    | some c =>
      rw [hc] at h
      obtain ⟨fn, hf, hchk⟩ := t.fns k c hc f hn
      exact fn_contract hf hchk t.mixed (fun k f args objs r outs hn h => t.call d k f args objs r outs hn h) h
end Go.Proofs.Ytfebkfeobdffjaa
