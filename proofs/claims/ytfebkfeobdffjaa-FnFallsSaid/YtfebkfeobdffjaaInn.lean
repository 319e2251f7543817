/- A call that is given a slice which an array of the caller's own owns: it comes back in its place. -/
import Derived.Test.YtfebkfeobdffjaaCall
namespace Go.Proofs.Ytfebkfeobdffjaa
open Go Go.RowKit
set_option linter.unusedSimpArgs false

theorem evL_get (g : Nat → AV) : ∀ {l : List Opd} {i : Nat} {d : AV}, (evL g l)[i]? = some d → ∃ y, l[i]? = some y ∧ d = y.ev g
  | [], i, d, h => by simp [evL] at h
  | z :: l, 0, d, h => by simp [evL] at h; exact ⟨z, rfl, h.symm⟩
  | z :: l, i + 1, d, h => by simp only [evL, List.getElem?_cons_succ] at h ⊢; exact evL_get g h

theorem SRel.plain {num : Nat → Option FuncId} {w : World} {R : Nat → Prop} {g : Gh} {h : Nat → Option AO} {ep : Nat} {v : Value} {c : AV} (hr : SRel num w R g h ep v c) (hp : c.plain = true)
    {w' : World} {R' : Nat → Prop} {g' : Gh} {h' : Nat → Option AO} {ep' : Nat} : SRel num w' R' g' h' ep' v c := by
  cases hr <;> first | exact .bool _ | exact .int _ _ | exact .str _ | (simp [AV.plain] at hp)

section
variable {cx : Cx} {s : St} {g : Gh} {a : Act} {w : World} {o : Oper} {key : Nat} {out : Out} {cl : Callee}

/-- The callee's memory: the one array. -/
def innCx (cx : Cx) (g : Gh) (w : World) (v : Value) (M : Nat → Prop) (ob : AO) : Cx := ⟨cx.P, cx.num, fun _ => False, M, g.I, g.N, w, 1, startHeap [ob] 0, fun _ => v⟩
def innGh (g : Gh) (v : Value) (M : Nat → Prop) : Gh := ⟨fun _ => v, fun _ => M, g.I, g.N, fun k => k < 1⟩

theorem inn_mem (m : Mem cx s.heap s.ep g w) {v : Value} {M : Nat → Prop} {sz : Nat} {zs : List (List AV)} (hc : Cl w g.I v (.sl .own sz zs) M) (hN : ∀ x, M x → g.N x) (hI : ∀ x, M x → ¬ g.I x) :
    Mem (innCx cx g w v M (.arr sz zs)) (startHeap [.arr sz zs] 0) 0 (innGh g v M) w := by
  have hget : ∀ k o', startHeap [AO.arr sz zs] 0 k = some o' → k = 0 ∧ o' = .arr sz zs := by
    intro k o' hk
    rw [startHeap_get, if_pos (Nat.zero_le _), Nat.sub_zero] at hk
    cases k with
    | zero => simp only [List.getElem?_cons_zero, Option.some.injEq] at hk; exact ⟨rfl, hk.symm⟩
    | succ k => simp at hk
  refine ⟨?_, ?_, ?_, ?_, m.I_lt, fun b hb => hb, fun b hb => .inl hb, m.I_N, fun b hb => hb, fun b hb => .inl hb, fun k hk => hk, fun k o' _ ho => ⟨o', ho, AO.alike_refl _, rfl⟩, m.N_lt, fun b hb => hb.elim, fun b hb => ⟨m.I_lt b hb, fun hM => hI b hM hb⟩, FrameW.refl _ _⟩
  · intro k o' hk
    obtain ⟨rfl, rfl⟩ := hget k o' hk
    exact ⟨hc, hN⟩
  · intro k o' hk
    obtain ⟨rfl, rfl⟩ := hget k o' hk
    exact Nat.lt_succ_self 0
  · intro k k' o1 o2 b hk hk' _ _
    rw [(hget k o1 hk).1, (hget k' o2 hk').1]
  · intro k o' b hk hf
    exact ⟨.inl hf, hI b hf⟩

theorem goes_callin (m : Mem cx s.heap s.ep g w) {c : Call} {x : Operand} {f : FuncId} {k : Nat} {y : Opd} {ys : List Opd} (ho : o.op = .call c) (hce : c.callee = .value x) (hx : a.eval x = .func (.func f) #[] #[])
    (hsz : c.args.size = (y :: ys).length) (hargs : ∀ (i : Nat) (xo : Operand) (z : Opd), c.args[i]? = some xo → (y :: ys)[i]? = some z → SRel cx.num w cx.R g s.heap s.ep (a.eval xo) (z.ev s.slots))
    (hC : ∀ args objs r outs, cl k args objs = some (r, outs) → Contract cx.P cx.num f args objs r outs) (h : sem cl (.callin k y ys) key s.slots s.heap s.ep = some out) : Goes cx s g a w o key out := by
  have hx0 : ∃ x0, c.args[0]? = some x0 := by
    have : 0 < c.args.size := by rw [hsz]; simp
    exact ⟨_, Array.getElem?_eq_getElem this⟩
  obtain ⟨x0, hx0⟩ := hx0
  have hr0 := hargs 0 x0 y hx0 rfl
  simp only [sem] at h
  generalize y.ev s.slots = c1 at h hr0
  generalize hv0 : a.eval x0 = v0 at hr0
  cases c1 <;> simp only [reduceCtorEq] at h
  rename_i e id i off
  split at h
  case isFalse => cases h
  rename_i hcond
  obtain ⟨rfl, hpl⟩ := hcond
  cases hh : s.heap id with
  | none => rw [hh] at h; cases h
  | some ob =>
    rw [hh] at h
    cases ob <;> simp only [reduceCtorEq] at h
    rename_i sz xs
    cases hrow : xs[i]? with
    | none => rw [hrow] at h; cases h
    | some row =>
      rw [hrow] at h
      simp only at h
      split at h
      case h_2 => cases h
      rename_i sz2 zs hro
      split at h
      case h_2 => cases h
      rename_i r sz3 zs' hcl
      split at h
      case isFalse => cases h
      rename_i hrp
      obtain ⟨hrp, rfl⟩ := hrp
      cases hr0 with
      | inn _ _ _ _ _ h1 hu hle hv =>
        obtain ⟨b, n, cp, hg, hNb, hcell⟩ := hv rfl _ _ hh
        obtain ⟨hcl0, hN0⟩ := m.objs id _ hh
        rcases hcl0.rows with ⟨h5, h6, _⟩ | ⟨b', cap', cur, e2, us, fs, h5, hheap, hcap, hmax, hcur, hcellm, r0, hnb, hS⟩
        · rw [h6] at hrow; simp at hrow
        have hg0 := hg
        rw [hg] at h5
        simp only [Value.slice.injEq, Option.some.injEq, Addr.mk.injEq, and_true] at h5
        obtain ⟨rfl, rfl, rfl⟩ := h5
        have hca : cellAt xs i off = some (.sl .own sz3 zs) := cellAt_some.2 ⟨row, hrow, hro⟩
        have huv : us i off = v0 := by
          have h7 := hcellm i off _ hca
          rw [cell_of_heap hheap, h7] at hcell
          exact Option.some.inj hcell
        have hcl1 := r0.cl i off _ hca
        have hMS : ∀ x, fs i off x → g.fp id x := fun x hx => (hS x).2 (.inr ⟨i, off, _, hca, hx⟩)
        have hMN : ∀ x, fs i off x → g.N x := fun x hx => hN0 x (hMS x hx)
        have hMI : ∀ x, fs i off x → ¬ g.I x := fun x hx => (m.mine id _ x hh (hMS x hx)).2
        have hmem := inn_mem (cx := cx) m hcl1 hMN hMI
        have hcon := hC _ _ _ _ hcl (innCx cx g w (us i off) (fs i off) (.arr sz3 zs)) (innGh g (us i off) (fs i off)) w (c.args.map a.eval) rfl rfl rfl rfl rfl rfl (fun _ h => h) hmem (by simp [hsz, evL_length])
          (fun j v d hv' hd => by
            rw [Array.getElem?_map] at hv'
            cases hxo : c.args[j]? with
            | none => rw [hxo] at hv'; cases hv'
            | some xo =>
              rw [hxo] at hv'
              simp only [Option.map_some, Option.some.injEq] at hv'
              subst hv'
              cases j with
              | zero =>
                simp only [List.getElem?_cons_zero, Option.some.injEq] at hd
                subst hd
                rw [hx0] at hxo
                obtain rfl := Option.some.inj hxo
                rw [hv0]
                exact .ref 0 _ h1 (Nat.lt_succ_self 0) (fun _ _ => huv.symm)
              | succ j =>
                simp only [List.getElem?_cons_succ] at hd
                obtain ⟨z, hz, rfl⟩ := evL_get _ hd
                have hp2 : (z.ev s.slots).plain = true := List.all_eq_true.1 hpl _ (List.mem_of_getElem? hd)
                exact (hargs (j + 1) xo z hxo (by simpa using hz)).plain hp2)
        intro next Q hnext
        have hrun : (execOp a.eval o).run cx.P w = (callFunc f (c.args.map a.eval)).run cx.P w := by
          simp [execOp, ho, resolve, hce, hx, Deferred.ofValue, invoke]
        unfold Oper.wp
        rw [hrun]
        refine hcon o a next Q ?_
        rintro v w' ⟨I, N, S, fo, p⟩
        obtain rfl := Option.some.inj h
        obtain ⟨hsh, _⟩ := p.out 0 (.arr sz3 zs') rfl
        have hnew : Cl w' I (us i off) (.sl .own sz3 zs') (fo 0) ∧ ∀ x, fo 0 x → N x := by
          rcases hsh.av_inv with ⟨sz4, xs4, h7, h8, h9⟩ | ⟨_, _, _, _, _, h7, _⟩
          · cases h7; exact ⟨h8, h9⟩
          · cases h7
        obtain ⟨hnew, hnewN⟩ := hnew
        have hlt := (List.getElem?_eq_some_iff.1 hrow).1
        have holt := (List.getElem?_eq_some_iff.1 hro).1
        have hSb : g.fp id b := (hS b).2 (.inl rfl)
        have hfo : ∀ x, fo 0 x → (fs i off x ∨ w.heap.size ≤ x) ∧ ¬ I x := fun x hx => p.mineO 0 x (Nat.lt_succ_self 0) hx
        have hIold : ∀ x, I x → x < w.heap.size → ¬ fs i off x → g.I x := fun x hx h8 h9 => by
          rcases p.I_new x hx with h7 | h7 | h7
          · exact h7
          · exact absurd h7 h9
          · exact absurd h7 (by simp only [innCx]; omega)
        have hblk : ∀ x, x < w.heap.size → ¬ fs i off x → w'.heap[x]? = w.heap[x]? := fun x h7 h8 => p.frame.block x h7 h8
        have hSlt := hcl0.lt
        -- the rows behind the call
        have hcat : ∀ i' j c, cellAt (xs.set i (row.set off (.sl .own sz3 zs'))) i' j = some c → (i' = i ∧ j = off ∧ c = .sl .own sz3 zs') ∨ (¬ (i' = i ∧ j = off) ∧ cellAt xs i' j = some c) := by
          intro i' j c hcc
          rw [cellAt_set hlt] at hcc
          by_cases h7 : i' = i
          · rw [if_pos h7, List.getElem?_set] at hcc
            by_cases h8 : off = j
            · rw [if_pos h8, if_pos holt] at hcc
              exact .inl ⟨h7, h8.symm, (Option.some.inj hcc).symm⟩
            · rw [if_neg h8] at hcc
              exact .inr ⟨fun h => h8 h.2.symm, cellAt_some.2 ⟨row, by rw [h7]; exact hrow, hcc⟩⟩
          · rw [if_neg h7] at hcc
            exact .inr ⟨fun h => h7 h.1, hcc⟩
        let fs' : Nat → Nat → Nat → Prop := fun i' j x => if i' = i ∧ j = off then fo 0 x else fs i' j x
        have hoth : ∀ i' j c x, ¬ (i' = i ∧ j = off) → cellAt xs i' j = some c → fs i' j x → g.fp id x ∧ x < w.heap.size ∧ ¬ fs i off x := fun i' j c x h7 h8 h9 => by
          have h10 := (hS x).2 (.inr ⟨i', j, c, h8, h9⟩)
          exact ⟨h10, hSlt x h10, fun h11 => h7 (r0.dis i' j c i off _ x h8 hca h9 h11)⟩
        have hsameI : Same w w' g.I := fun x hx => hblk x (m.I_lt x hx) (fun h7 => hMI x h7 hx)
        have hbout : ¬ fs i off b := fun h7 => hnb ⟨i, off, _, hca, h7⟩
        have hheap' : w'.heap[b]? = some (.cells cur e2 (0, 0)) := by rw [hblk b (hSlt b hSb) hbout]; exact hheap
        have rr : Rows w' I sz (xs.set i (row.set off (.sl .own sz3 zs'))) us fs' := by
          refine ⟨fun r hr' => ?_, fun i' j c hcc => ?_, fun i1 j1 c1 i2 j2 c2 x hc1 hc2 hf1 hf2 => ?_⟩
          · rcases List.mem_or_eq_of_mem_set hr' with h7 | h7
            · exact r0.row r h7
            · rw [h7, List.length_set]; exact r0.row row (List.mem_of_getElem? hrow)
          · rcases hcat i' j c hcc with ⟨rfl, rfl, rfl⟩ | ⟨h7, h8⟩
            · simp only [fs', and_self, if_true]; exact hnew
            · simp only [fs', h7, if_false]
              exact (r0.cl i' j c h8).mono (fun x hx => hblk x (hoth i' j c x h7 h8 hx).2.1 (hoth i' j c x h7 h8 hx).2.2) hsameI p.I_up
          · rcases hcat i1 j1 c1 hc1 with ⟨h7, h8, _⟩ | ⟨h7, h8⟩ <;> rcases hcat i2 j2 c2 hc2 with ⟨k7, k8, _⟩ | ⟨k7, k8⟩
            · exact ⟨h7.trans k7.symm, h8.trans k8.symm⟩
            · simp only [fs', h7, h8, k7, and_self, if_true, if_false] at hf1 hf2
              obtain ⟨_, h9, h10⟩ := hoth i2 j2 c2 x k7 k8 hf2
              rcases (hfo x hf1).1 with h11 | h11
              · exact absurd h11 h10
              · omega
            · simp only [fs', h7, k7, k8, and_self, if_true, if_false] at hf1 hf2
              obtain ⟨_, h9, h10⟩ := hoth i1 j1 c1 x h7 h8 hf1
              rcases (hfo x hf2).1 with h11 | h11
              · exact absurd h11 h10
              · omega
            · simp only [fs', h7, k7, if_false] at hf1 hf2
              exact r0.dis _ _ _ _ _ _ x h8 k8 hf1 hf2
        have hfall : ∀ x, Fall (xs.set i (row.set off (.sl .own sz3 zs'))) fs' x → fo 0 x ∨ (g.fp id x ∧ x < w.heap.size ∧ ¬ fs i off x ∧ x ≠ b) := by
          rintro x ⟨i', j, c, hcc, hf⟩
          rcases hcat i' j c hcc with ⟨h7, h8, _⟩ | ⟨h7, h8⟩
          · simp only [fs', h7, h8, and_self, if_true] at hf; exact .inl hf
          · simp only [fs', h7, if_false] at hf
            obtain ⟨h9, h10, h11⟩ := hoth i' j c x h7 h8 hf
            exact .inr ⟨h9, h10, h11, fun e => hnb (e ▸ ⟨i', j, c, h8, hf⟩)⟩
        have hnotb : ¬ Fall (xs.set i (row.set off (.sl .own sz3 zs'))) fs' b := by
          intro hx
          rcases hfall b hx with h7 | h7
          · rcases (hfo b h7).1 with h8 | h8
            · exact hbout h8
            · have := hSlt b hSb; omega
          · exact h7.2.2.2 rfl
        have hcl2 := rr.own (w1 := w') (b := b) (cap := cp) hheap' (by rw [List.length_set]; exact hcap) hmax hcur (fun i' j c hcc => by
            rcases hcat i' j c hcc with ⟨rfl, rfl, rfl⟩ | ⟨h7, h8⟩
            · exact hcellm _ _ _ hca
            · exact hcellm _ _ _ h8) (Same.refl _ _) (Same.refl _ _) hnotb
        rw [List.length_set] at hcl2
        let F' : Nat → Prop := fun x => x = b ∨ Fall (xs.set i (row.set off (.sl .own sz3 zs'))) fs' x
        have hF' : ∀ x, F' x → (w.heap.size ≤ x ∨ g.fp id x) ∧ ¬ I x := by
          have hold : ∀ x, g.fp id x → ¬ fs i off x → ¬ I x := fun x h7 h8 h9 => (m.mine id _ x hh h7).2 (hIold x h9 (hSlt x h7) h8)
          rintro x (rfl | hx)
          · exact ⟨.inr hSb, hold _ hSb hbout⟩
          · rcases hfall x hx with h7 | h7
            · obtain ⟨h8, h9⟩ := hfo x h7
              exact ⟨h8.symm.imp (fun h => h) (hMS x), h9⟩
            · exact ⟨.inr h7.1, hold x h7.1 h7.2.2.1⟩
        have hF'N : ∀ x, F' x → g.N x ∨ N x := by
          rintro x (rfl | hx)
          · exact .inl hNb
          · rcases hfall x hx with h7 | h7
            · exact .inr (hnewN x h7)
            · exact .inl (hN0 x h7.1)
        have hfpid : upd g.fp id F' id = F' := by simp [upd]
        let g' : Gh := ⟨g.v, upd g.fp id F', I, fun x => g.N x ∨ N x, g.used⟩
        have t : Touch cx (fun j => j = id) s.heap s.ep g w (wsOn s.heap [(id, some (.arr sz (xs.set i (row.set off (.sl .own sz3 zs')))))]) (s.ep + 1) g' w' := by
          refine ⟨p.frame.os, p.frame.tape, p.frame.output, p.frame.size, Nat.le_succ _, ?_, ?_, fun _ h => h, ?_, ?_, ?_, ?_, p.I_up, ?_, fun x hx => .inr (p.I_N x hx), fun _ h => .inl h, ?_, fun he => absurd he (by omega)⟩
          · intro j hj
            exact ⟨by simp [wsOn, upd, hj], fun _ => ⟨rfl, by simp [g', upd, hj]⟩⟩
          · intro x hx hO
            exact hblk x hx (fun h7 => hO ⟨id, _, rfl, hh, hMS x h7⟩)
          · intro j o1 hj _
            rw [hj]; exact hu
          · intro j o1 hj _ ho1
            subst hj
            simp only [wsOn, upd, if_true, Option.some.injEq] at ho1
            exact ⟨_, hh, by rw [← ho1]; rfl, rfl⟩
          · intro j o1 x hj ho1 hf
            subst hj
            have hf' : F' x := by simpa [g', upd] using hf
            obtain ⟨h7, h8⟩ := hF' x hf'
            exact ⟨h7.imp (fun h => h) (fun h9 => ⟨j, _, rfl, hh, h9⟩), h8⟩
          · intro j j' _ _ x hj hj' _ _ _ _
            exact hj.trans hj'.symm
          · intro x hx
            rcases p.I_new x hx with h7 | h7 | h7
            · exact .inl h7
            · exact .inr (.inl ⟨id, _, rfl, hh, hMS x h7⟩)
            · exact .inr (.inr ⟨h7, p.N_lt x (p.I_N x hx)⟩)
          · rintro x (hx | hx)
            · exact .inl hx
            · rcases p.N_new x hx with h7 | h7
              · exact .inl h7
              · exact .inr ⟨h7, p.N_lt x hx⟩
        have mm := t.mem m (fun j o1 hj ho1 => by
          subst hj
          simp only [wsOn, upd, if_true, Option.some.injEq] at ho1
          subst ho1
          refine ⟨?_, ?_⟩
          · show Cl w' I (g.v j) _ (upd g.fp j F' j)
            rw [hfpid, hg0]; exact hcl2
          · show ∀ x, upd g.fp j F' j x → _
            rw [hfpid]; exact hF'N)
        refine hnext v w' g' (t.keeps m) mm ?_ (fun _ h => .inl h)
        have hres := p.res
        cases hres with
        | one _ _ _ h7 => cases h7 with
          | one _ _ _ h8 => cases h8 <;> first | exact .bool _ | exact .int _ _ | exact .str _ | (simp [AV.plain] at hrp)
          | agg => simp [AV.plain] at hrp
          | cellp => simp [AV.plain] at hrp
        | tup => simp [AV.plain] at hrp
end
end Go.Proofs.Ytfebkfeobdffjaa
