/- FnExactMateWantsOk: for every input the law returns true. -/
import Derived.Test.YtahgeececclhdaaPureWantsOk
import Derived.Test.YtahgeececclhdaaTie
import Derived.Test.YtahgeececclhdaaReadT
import Derived.Test.YtahgeececclhdaaRows
import Derived.WalkKit
import Derived.ProofKit
import Derived.OpenShut
import Derived.ChangeOld
import Derived.Below
import Derived.SizedLaws
import Derived.KernelRfl
import Derived.Carry
namespace Go.Proofs.Ytahgeececclhdaa.FnExactMateWantsOkRow
open Go.ChangeShapes Go.WideShapes Go.ChangeAt Go.RowKit Go.Proofs.Ytahgeececclhdaa

theorem own : ownKnob Try.prog.godebug = none := by kernel_rfl
theorem laidOut : laidOutB Try.prog = true := by kernel_rfl
theorem params : Try.f5.params = #[Try.f5.params.getD 0 0] := by kernel_rfl
theorem readable0 : Try.prog.readableRec (Try.f5.params.getD 0 0) = true := by kernel_rfl
theorem inTable0 : (Try.f5.params.getD 0 0) < Try.prog.types.size := of_decide_eq_true (by kernel_rfl)
theorem shape0 : shOf Try.prog 6 (Try.f5.params.getD 0 0) = some [.sl shWant] := by kernel_rfl
theorem kind0 : (match Try.prog.underlying (Try.f5.params.getD 0 0) with | some (.slice _) => true | _ => false) = true := by kernel_rfl

theorem calls {W : World} {v0 : Value} {x0 : List Want} (h0 : ListWf Want.wf x0) (a0 : ArgRel num W v0 (.sl .bor 7 (x0.map Want.c))) : Calls Try.prog 5 #[v0] W fun e W' => e = .returned (.bool true) ∧ Below W.heap.size W W' := by
  have hC := tied_lim tied (k := 165) (f := 5) (by kernel_rfl) (wantsOk_law x0 h0)
  exact law_calls Try.func5 rfl (by decide) hC (.cons _ _ _ _ a0 .nil)

set_option maxRecDepth 100000 in
theorem lifted (os : Os) (started : os.Started) (H : Type) (enc : TypeId × Value → H) :
    ReturnsInHanded {} Try.checked os 5 .any (Rows.fnExactMateWantsOkSpec.pre6 enc Try.prog Try.f5 Rows.fnExactMateWantsOkRow.domain false) (Rows.fnExactMateWantsOkSpec.post enc Try.prog Try.f5 false true false false) := by
  refine returnsInHanded_of_change_sized (C := Try.checked) own started (by kernel_rfl) Try.func5
    (ChangeSpec.witness6 (enc := enc) (C := Try.checked) false ⟨#[], #[.slice none 0 0], []⟩ 8 (by kernel_rfl) (by kernel_rfl) (by kernel_rfl) (by kernel_rfl)) ?_
  intro W base args ds gs before hok hW _ _ _
  have hW' := hW
  obtain ⟨p, q, hA0, hV, rfl, hfz, hnd⟩ := hW
  have hA : DataW.TrodAll enc Try.prog W 0 (fun _ => true) true Try.f5.params.toList args.toList ds p := hA0
  rw [params] at hA
  obtain ⟨v0, d0, rfl, rfl, t0⟩ := trodAll_one hA
  obtain ⟨rfl, rfl⟩ := trodVars_none hV
  have k0 := hok 0 (Try.f5.params.getD 0 0) v0 (by kernel_rfl) rfl
  obtain ⟨y0, ht0⟩ : ∃ e, Try.prog.underlying (Try.f5.params.getD 0 0) = some (.slice e) := by
    have := kind0
    split at this
    · exact ⟨_, ‹_›⟩
    · cases this
  obtain ⟨c0, f0, a0⟩ := arg_of_slice (num := num) ht0 shape0 k0 t0
  obtain ⟨x0, rfl, h0⟩ := fits_list (fun _ => want_of) f0
  have l0 : ∀ x ∈ p, x.block < W.heap.size := fun x hx => hW'.lt x (by simp [hx])
  clear hA0
  refine (calls h0 a0).mono fun e W' ⟨he, hb⟩ => ?_
  subst he
  have b0 := Below.trod laidOut readable0 inTable0 t0 hb l0
  refine ⟨_, rfl, _, _, _, [], p, [], hW', trodAll_mk1 (shut_bool Try.underlying4 _), ?_, rfl, hb.frame _, fun h => by cases h⟩
  rw [params]
  exact trodAll_mk1 b0

theorem over : Rows.fnExactMateWantsOkRow.holds Try.pinned (OpenSpec.ofChange Rows.fnExactMateWantsOkSpec) :=
  OpenClaim.holds_of_wide 5 Try.f5 rfl rfl rfl rfl rfl rfl rfl ⟨rfl, rfl, rfl, rfl, rfl⟩ rfl rfl rfl rfl rfl (by kernel_rfl) Try.func5 (by kernel_rfl)
    (of_decide_eq_true (by kernel_rfl)) (by unfold Func.isWrapper; first | (rw [if_pos (by decide +kernel)]; kernel_rfl) | (rw [if_neg (by decide +kernel)]; exact ⟨rfl, rfl⟩))
    (fun os started H enc _ => lifted os started H enc)
end Go.Proofs.Ytahgeececclhdaa.FnExactMateWantsOkRow

namespace Go.Proofs.Ytahgeececclhdaa
theorem fnExactMateWantsOk_holds : Ytahgeececclhdaa.Rows.FnExactMateWantsOkSaid := FnExactMateWantsOkRow.over
end Go.Proofs.Ytahgeececclhdaa
