/- FnExactMateTake: for every input the law returns true. -/
import Derived.Test.YtgeingajanamnaaPureTake
import Derived.Test.YtgeingajanamnaaTie
import Derived.Test.YtgeingajanamnaaReadT
import Derived.Test.YtgeingajanamnaaRows
import Derived.WalkKit
import Derived.ProofKit
import Derived.OpenShut
import Derived.ChangeOld
import Derived.Below
import Derived.SizedLaws
import Derived.KernelRfl
import Derived.Carry
namespace Go.Proofs.Ytgeingajanamnaa.FnExactMateTakeRow
open Go.ChangeShapes Go.WideShapes Go.ChangeAt Go.RowKit Go.Proofs.Ytgeingajanamnaa

theorem own : ownKnob Try.prog.godebug = none := by kernel_rfl
theorem laidOut : laidOutB Try.prog = true := by kernel_rfl
theorem params : Try.f3.params = #[Try.f3.params.getD 0 0, Try.f3.params.getD 1 0] := by kernel_rfl
theorem readable0 : Try.prog.readableRec (Try.f3.params.getD 0 0) = true := by kernel_rfl
theorem inTable0 : (Try.f3.params.getD 0 0) < Try.prog.types.size := of_decide_eq_true (by kernel_rfl)
theorem shape0 : shOf Try.prog 9 (Try.f3.params.getD 0 0) = some shMate := by kernel_rfl
theorem kind0 : (match Try.prog.underlying (Try.f3.params.getD 0 0) with | some (.struct _) => true | _ => false) = true := by kernel_rfl
theorem readable1 : Try.prog.readableRec (Try.f3.params.getD 1 0) = true := by kernel_rfl
theorem inTable1 : (Try.f3.params.getD 1 0) < Try.prog.types.size := of_decide_eq_true (by kernel_rfl)
theorem shape1 : shOf Try.prog 9 (Try.f3.params.getD 1 0) = some shParcel := by kernel_rfl
theorem kind1 : (match Try.prog.underlying (Try.f3.params.getD 1 0) with | some (.struct _) => true | _ => false) = true := by kernel_rfl

theorem calls {W : World} {v0 v1 : Value} {x0 : Mate} (h0 : Mate.wf x0) (a0 : ArgRel num W v0 (.agg (x0.c .bor))) {x1 : Parcel} (h1 : Parcel.wf x1) (a1 : ArgRel num W v1 (.agg (x1.c .bor))) : Calls Try.prog 3 #[v0, v1] W fun e W' => e = .returned (.bool true) ∧ Below W.heap.size W W' := by
  have hC := tied_lim tied (k := 177) (f := 3) (by kernel_rfl) (take_law x0 h0 x1 h1)
  exact law_calls Try.func3 rfl (by decide) hC (.cons _ _ _ _ a0 (.cons _ _ _ _ a1 .nil))

set_option maxRecDepth 100000 in
theorem lifted (os : Os) (started : os.Started) (H : Type) (enc : TypeId × Value → H) :
    ReturnsInHanded {} Try.checked os 3 .any (Rows.fnExactMateTakeSpec.pre6 enc Try.prog Try.f3 Rows.fnExactMateTakeRow.domain false) (Rows.fnExactMateTakeSpec.post enc Try.prog Try.f3 false true false false) := by
  refine returnsInHanded_of_change_sized (C := Try.checked) own started (by kernel_rfl) Try.func3
    (ChangeSpec.witness6 (enc := enc) (C := Try.checked) false ⟨#[], #[.agg #[.string ⟨#[]⟩, .bool false, .int .i64 0, .bool false, .int .i64 0, .slice none 0 0, .slice none 0 0, .slice none 0 0, .slice none 0 0], .agg #[.int .i64 0, .string ⟨#[]⟩, .int .i64 0, .slice none 0 0, .string ⟨#[]⟩, .string ⟨#[]⟩, .int .i64 0]], []⟩ 8 (by kernel_rfl) (by kernel_rfl) (by kernel_rfl) (by kernel_rfl)) ?_
  intro W base args ds gs before hok hW _ _ _
  have hW' := hW
  obtain ⟨p, q, hA0, hV, rfl, hfz, hnd⟩ := hW
  have hA : DataW.TrodAll enc Try.prog W 0 (fun _ => true) true Try.f3.params.toList args.toList ds p := hA0
  rw [params] at hA
  obtain ⟨v0, v1, d0, d1, p0, p1, rfl, rfl, rfl, t0, t1⟩ := trodAll_two hA
  obtain ⟨rfl, rfl⟩ := trodVars_none hV
  have k0 := hok 0 (Try.f3.params.getD 0 0) v0 (by kernel_rfl) rfl
  obtain ⟨y0, ht0⟩ : ∃ fs, Try.prog.underlying (Try.f3.params.getD 0 0) = some (.struct fs) := by
    have := kind0
    split at this
    · exact ⟨_, ‹_›⟩
    · cases this
  obtain ⟨c0, f0, a0⟩ := arg_struct (num := num) ht0 shape0 k0 t0
  obtain ⟨x0, rfl, h0⟩ := mate_of f0
  have l0 : ∀ x ∈ p0, x.block < W.heap.size := fun x hx => hW'.lt x (by simp [hx])
  have k1 := hok 1 (Try.f3.params.getD 1 0) v1 (by kernel_rfl) rfl
  obtain ⟨y1, ht1⟩ : ∃ fs, Try.prog.underlying (Try.f3.params.getD 1 0) = some (.struct fs) := by
    have := kind1
    split at this
    · exact ⟨_, ‹_›⟩
    · cases this
  obtain ⟨c1, f1, a1⟩ := arg_struct (num := num) ht1 shape1 k1 t1
  obtain ⟨x1, rfl, h1⟩ := parcel_of f1
  have l1 : ∀ x ∈ p1, x.block < W.heap.size := fun x hx => hW'.lt x (by simp [hx])
  clear hA0
  refine (calls h0 a0 h1 a1).mono fun e W' ⟨he, hb⟩ => ?_
  subst he
  have b0 := Below.trod laidOut readable0 inTable0 t0 hb l0
  have b1 := Below.trod laidOut readable1 inTable1 t1 hb l1
  refine ⟨_, rfl, _, _, _, [], p0 ++ p1, [], hW', trodAll_mk1 (shut_bool Try.underlying4 _), ?_, rfl, hb.frame _, fun h => by cases h⟩
  rw [params]
  exact trodAll_mk2 b0 b1

theorem over : Rows.fnExactMateTakeRow.holds Try.pinned (OpenSpec.ofChange Rows.fnExactMateTakeSpec) :=
  OpenClaim.holds_of_wide 3 Try.f3 rfl rfl rfl rfl rfl rfl rfl ⟨rfl, rfl, rfl, rfl, rfl⟩ rfl rfl rfl rfl rfl (by kernel_rfl) Try.func3 (by kernel_rfl)
    (of_decide_eq_true (by kernel_rfl)) (by unfold Func.isWrapper; first | (rw [if_pos (by decide +kernel)]; kernel_rfl) | (rw [if_neg (by decide +kernel)]; exact ⟨rfl, rfl⟩))
    (fun os started H enc _ => lifted os started H enc)
end Go.Proofs.Ytgeingajanamnaa.FnExactMateTakeRow

namespace Go.Proofs.Ytgeingajanamnaa
theorem fnExactMateTake_holds : Ytgeingajanamnaa.Rows.FnExactMateTakeSaid := FnExactMateTakeRow.over
end Go.Proofs.Ytgeingajanamnaa
