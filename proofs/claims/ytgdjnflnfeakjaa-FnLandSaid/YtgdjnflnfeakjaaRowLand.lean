/- FnLand: for every input the law returns true. -/
import Derived.Test.YtgdjnflnfeakjaaB7
import Derived.Test.YtgdjnflnfeakjaaBind
import Derived.Test.YtgdjnflnfeakjaaB5
import Derived.Test.YtgdjnflnfeakjaaRows
import Derived.WalkKit
import Derived.ProofKit
import Derived.OpenShut
import Derived.ChangeOld
import Derived.Below
import Derived.SizedLaws
import Derived.KernelRfl
import Derived.Carry
namespace Go.Proofs.Ytgdjnflnfeakjaa.FnLandRow
open Go.ChangeShapes Go.WideShapes Go.ChangeAt Go.RowKit Go.Proofs.Ytgdjnflnfeakjaa

theorem own : ownKnob Try.prog.godebug = none := by kernel_rfl
theorem laidOut : laidOutB Try.prog = true := by kernel_rfl
theorem params : Try.f3.params = #[Try.f3.params.getD 0 0] := by kernel_rfl
theorem readable0 : Try.prog.readableRec (Try.f3.params.getD 0 0) = true := by kernel_rfl
theorem inTable0 : (Try.f3.params.getD 0 0) < Try.prog.types.size := of_decide_eq_true (by kernel_rfl)
theorem shape0 : shOf Try.prog 9 (Try.f3.params.getD 0 0) = some [.sl [.int .u8]] := by kernel_rfl
theorem kind0 : (match Try.prog.underlying (Try.f3.params.getD 0 0) with | some (.slice _) => true | _ => false) = true := by kernel_rfl

set_option maxRecDepth 100000 in
theorem calls {W : World} {v0 : Value} {fz : List (Nat × Obj)} (hfz : ∀ p ∈ fz, W.heap[p.1]? = some p.2) (hp : PrimsOk Try.prog num fz) {x0 : List Int} (h0 : ListWf Byte x0) (a0 : ArgRel num W v0 (.sl .imm 1 (x0.map rowB))) : Calls Try.prog 3 #[v0] W fun e W' => e = .returned (.bool true) ∧ Below W.heap.size W W' := by
  have hC := tied_lim (tied hp) (k := 181) (f := 3) (by kernel_rfl) (land_law x0 h0)
  exact law_calls Try.func3 rfl (by decide) hC hfz srt (.cons _ _ _ _ a0 .nil)

set_option maxRecDepth 100000 in
theorem lifted (os : Os) (started : os.Started) (H : Type) (enc : TypeId × Value → H) :
    ReturnsInHanded {} Try.checked os 3 .any (Rows.fnLandSpec.pre6 enc Try.prog Try.f3 Rows.fnLandRow.domain false) (Rows.fnLandSpec.post enc Try.prog Try.f3 false true false false) := by
  refine returnsInHanded_of_change_sized (C := Try.checked) own started (by kernel_rfl) Try.func3
    (ChangeSpec.witness6 (enc := enc) (C := Try.checked) false ⟨#[], #[.slice none 0 0], []⟩ 8 (by kernel_rfl) (by kernel_rfl) (by kernel_rfl) (by kernel_rfl)) ?_
  intro W base args ds gs before hok hW _ _ _
  have hW' := hW
  obtain ⟨p, q, hA0, hV, rfl, hfz, hnd⟩ := hW
  have hA : DataW.TrodAll enc Try.prog W 0 (fun _ => true) true Try.f3.params.toList args.toList ds p := hA0
  rw [params] at hA
  obtain ⟨v0, d0, rfl, rfl, t0⟩ := trodAll_one hA
  obtain ⟨rfl, rfl⟩ := trodVars_none hV
  have k0 := hok 0 (Try.f3.params.getD 0 0) v0 (by kernel_rfl) rfl
  obtain ⟨y0, ht0⟩ : ∃ e, Try.prog.underlying (Try.f3.params.getD 0 0) = some (.slice e) := by
    have := kind0
    split at this
    · exact ⟨_, ‹_›⟩
    · cases this
  obtain ⟨c0, f0, a0⟩ := arg_of_slice (num := num) ht0 shape0 k0 t0
  obtain ⟨x0, rfl, h0⟩ := fits_list (fun _ => byte1_of) f0
  replace a0 := a0.imm
  have l0 : ∀ x ∈ p, x.block < W.heap.size := fun x hx => hW'.lt x (by simp [hx])
  clear hA0
  refine (calls (fz := []) (fun _ h => by simp at h) prims0 h0 a0).mono fun e W' ⟨he, hb⟩ => ?_
  subst he
  have b0 := Below.trod laidOut readable0 inTable0 t0 hb l0
  refine ⟨_, rfl, _, _, _, [], p, [], hW', trodAll_mk1 (shut_bool Try.underlying4 _), ?_, rfl, hb.frame _, fun h => by cases h⟩
  rw [params]
  exact trodAll_mk1 b0

theorem over : Rows.fnLandRow.holds Try.pinned (OpenSpec.ofChange Rows.fnLandSpec) :=
  OpenClaim.holds_of_wide 3 Try.f3 rfl rfl rfl rfl rfl rfl rfl ⟨rfl, rfl, rfl, rfl, rfl⟩ rfl rfl rfl rfl rfl (by kernel_rfl) Try.func3 (by kernel_rfl)
    (of_decide_eq_true (by kernel_rfl)) (by unfold Func.isWrapper; first | (rw [if_pos (by decide +kernel)]; kernel_rfl) | (rw [if_neg (by decide +kernel)]; exact ⟨rfl, rfl⟩))
    (fun os started H enc _ => lifted os started H enc)
end Go.Proofs.Ytgdjnflnfeakjaa.FnLandRow

namespace Go.Proofs.Ytgdjnflnfeakjaa
theorem fnLand_holds : Ytgdjnflnfeakjaa.Rows.FnLandSaid := FnLandRow.over
end Go.Proofs.Ytgdjnflnfeakjaa
