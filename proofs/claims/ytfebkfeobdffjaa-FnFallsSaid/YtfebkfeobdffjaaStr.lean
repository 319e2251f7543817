/- Each operation of the model does what the abstract machine's does: bytes to a text. -/
import Derived.Test.YtfebkfeobdffjaaMap
import Derived.Laws.BytesArg
namespace Go.Proofs.Ytfebkfeobdffjaa
open Go Go.RowKit
set_option linter.unusedSimpArgs false

theorem toBytes_nums : ∀ {xs : List (List AV)} {bs : List UInt8}, toBytes xs = some bs → ∃ ns : List Int, xs = ns.map (fun n => [AV.int .u8 n]) ∧ bs = ns.map fun n => UInt8.ofNat n.toNat
  | [], bs, h => by
    simp only [toBytes, Option.some.injEq] at h
    exact ⟨[], rfl, h.symm⟩
  | r :: xs, bs, h => by
    unfold toBytes at h
    split at h
    · cases h
      rename_i he
      cases he
    · rename_i n xs' he
      obtain ⟨rfl, rfl⟩ := List.cons.inj he
      cases hr : toBytes xs with
      | none => rw [hr] at h; cases h
      | some b =>
        rw [hr] at h
        simp only [Option.some.injEq] at h
        obtain ⟨ns, h1, h2⟩ := toBytes_nums hr
        exact ⟨n :: ns, by simp [h1], by simp [← h, h2]⟩
    · cases h

section
variable {cx : Cx} {s : St} {g : Gh} {a : Act} {w : World} {o : Oper} {key : Nat} {out : Out} {cl : Callee}

theorem done_toStr (m : Mem cx s.heap s.ep g w) {x : Operand} {t t' e : TypeId} {y : Opd} (ho : o.op = .convert t t' x) (ht : cx.P.underlying t = some (.slice e)) (he : cx.P.underlying e = some (.int .u8)) (ht' : cx.P.underlying t' = some .string)
    (h1 : SRel cx.num w cx.R g s.heap s.ep (a.eval x) (y.ev s.slots)) (h : sem cl (.toStr y) key s.slots s.heap s.ep = some out) : Done cx s g a w o key out := by
  simp only [sem] at h
  cases hc : content s.heap s.ep (y.ev s.slots) with
  | none => rw [hc] at h; cases h
  | some p =>
    obtain ⟨sz, xs⟩ := p
    rw [hc] at h
    simp only at h
    cases hb : toBytes xs with
    | none => rw [hb] at h; cases h
    | some bs =>
      rw [hb] at h
      obtain ⟨ns, hxs, hbs⟩ := toBytes_nums hb
      have hstr : (⟨bs.toArray⟩ : ByteArray) = strOfNums ns := by rw [hbs]; rfl
      simp only at h
      rw [hstr] at h
      rcases content_cells m h1 hc with ⟨rfl, ad, cap, hv⟩ | ⟨b, off, cap, us, hv, hrow, hcell⟩
      · have hns : ns = [] := by cases ns with | nil => rfl | cons _ _ => simp at hxs
        subst hns
        refine done_val m (v := .string (strOfNums [])) ?_ (.str _) h
        cases ad with
        | none =>
          have := run_convert_bytes_nil (P := cx.P) w t e ht he 0 cap t' ht'
          simp [execOp, ho, hv, this]
          rfl
        | some ad =>
          have h2 := run_convert_bytes_string (P := cx.P) w t t' e (some ad) 0 cap ht he ht'
          have h3 : (Conv.bytesToString (.slice (some ad) 0 cap)).run cx.P w = .ok (.string ByteArray.empty) w := by
            have := run_bytesToString (P := cx.P) w ad 0 cap [] (by simp [loadCells, loadCellsFrom])
            simpa using this
          simp [execOp, ho, hv, h2, h3]
          rfl
      · refine done_val m (v := .string (strOfNums ns)) ?_ (.str _) h
        have hlen : xs.length = ns.length := by rw [hxs]; simp
        have := run_convert_bytes_arg (P := cx.P) w t e ht he b off xs.length cap ns hlen.symm (fun i hi => by
          have hni : ns[i]? = some (ns.getD i 0) := by simp [List.getD, List.getElem?_eq_getElem (show i < ns.length by omega)]
          have hx : xs[i]? = some [AV.int .u8 (ns.getD i 0)] := by rw [hxs, List.getElem?_map, hni]; rfl
          have hsz : sz = 1 := by have := hrow _ (List.mem_of_getElem? hx); simpa using this.symm
          subst hsz
          obtain ⟨h2, h3⟩ := hcell i 0 (.int .u8 (ns.getD i 0)) (cellAt_some.2 ⟨_, hx, rfl⟩)
          generalize us i 0 = u at h2 h3
          cases h3
          simpa using h2) t' ht'
        simp [execOp, ho, hv, this]
end
end Go.Proofs.Ytfebkfeobdffjaa
