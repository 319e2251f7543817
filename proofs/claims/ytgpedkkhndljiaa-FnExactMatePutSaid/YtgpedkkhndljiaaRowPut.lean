/- FnExactMatePut: for every input the law returns true. -/
import Derived.Test.YtgpedkkhndljiaaB5
import Derived.Test.YtgpedkkhndljiaaBind
import Derived.Test.YtgpedkkhndljiaaRows
import Derived.WalkKit
import Derived.ProofKit
import Derived.OpenShut
import Derived.ChangeOld
import Derived.Below
import Derived.SizedLaws
import Derived.KernelRfl
import Derived.Carry
namespace Go.Proofs.Ytgpedkkhndljiaa.FnExactMatePutRow
open Go.ChangeShapes Go.WideShapes Go.ChangeAt Go.RowKit Go.Proofs.Ytgpedkkhndljiaa

theorem own : ownKnob Try.prog.godebug = none := by kernel_rfl
theorem laidOut : laidOutB Try.prog = true := by kernel_rfl
theorem params : Try.f3.params = #[Try.f3.params.getD 0 0, Try.f3.params.getD 1 0, Try.f3.params.getD 2 0] := by kernel_rfl
theorem readable0 : Try.prog.readableRec (Try.f3.params.getD 0 0) = true := by kernel_rfl
theorem inTable0 : (Try.f3.params.getD 0 0) < Try.prog.types.size := of_decide_eq_true (by kernel_rfl)
theorem shape0 : shOf Try.prog 9 (Try.f3.params.getD 0 0) = some shLand := by kernel_rfl
theorem kind0 : (match Try.prog.underlying (Try.f3.params.getD 0 0) with | some (.struct _) => true | _ => false) = true := by kernel_rfl
theorem readable1 : Try.prog.readableRec (Try.f3.params.getD 1 0) = true := by kernel_rfl
theorem inTable1 : (Try.f3.params.getD 1 0) < Try.prog.types.size := of_decide_eq_true (by kernel_rfl)
theorem kind1 : Try.prog.underlying (Try.f3.params.getD 1 0) = some .string := by kernel_rfl
theorem readable2 : Try.prog.readableRec (Try.f3.params.getD 2 0) = true := by kernel_rfl
theorem inTable2 : (Try.f3.params.getD 2 0) < Try.prog.types.size := of_decide_eq_true (by kernel_rfl)
theorem shape2 : shOf Try.prog 9 (Try.f3.params.getD 2 0) = some [.sl shWant] := by kernel_rfl
theorem kind2 : (match Try.prog.underlying (Try.f3.params.getD 2 0) with | some (.slice _) => true | _ => false) = true := by kernel_rfl

theorem calls {W : World} {v0 v1 v2 : Value} {x0 : Land} (h0 : Land.wf x0) (a0 : ArgRel num W v0 (.agg (x0.c .bor .bor))) {x1 : T} (h1 : x1.size ≤ maxLen) (a1 : ArgRel num W v1 (.str x1)) {x2 : List Want} (h2 : ListWf Want.wf x2) (a2 : ArgRel num W v2 (.sl .bor 7 (x2.map Want.c))) : Calls Try.prog 3 #[v0, v1, v2] W fun e W' => e = .returned (.bool true) ∧ Below W.heap.size W W' := by
  have hC := tied_lim (tied prims0) (k := 180) (f := 3) (by kernel_rfl) (put_law x0 h0 x1 h1 x2 h2)
  exact law_calls Try.func3 rfl (by decide) hC (fun _ h => by simp at h) srt (.cons _ _ _ _ a0 (.cons _ _ _ _ a1 (.cons _ _ _ _ a2 .nil)))

set_option maxRecDepth 100000 in
theorem lifted (os : Os) (started : os.Started) (H : Type) (enc : TypeId × Value → H) :
    ReturnsInHanded {} Try.checked os 3 .any (Rows.fnExactMatePutSpec.pre6 enc Try.prog Try.f3 Rows.fnExactMatePutRow.domain false) (Rows.fnExactMatePutSpec.post enc Try.prog Try.f3 false true false false) := by
  refine returnsInHanded_of_change_sized (C := Try.checked) own started (by kernel_rfl) Try.func3
    (ChangeSpec.witness6 (enc := enc) (C := Try.checked) false ⟨#[], #[.agg #[.int .i64 0, .slice none 0 0, .slice none 0 0], .string ⟨#[]⟩, .slice none 0 0], []⟩ 8 (by kernel_rfl) (by kernel_rfl) (by kernel_rfl) (by kernel_rfl)) ?_
  intro W base args ds gs before hok hW _ _ _
  have hW' := hW
  obtain ⟨p, q, hA0, hV, rfl, hfz, hnd⟩ := hW
  have hA : DataW.TrodAll enc Try.prog W 0 (fun _ => true) true Try.f3.params.toList args.toList ds p := hA0
  rw [params] at hA
  obtain ⟨v0, v1, v2, d0, d1, d2, p0, p1, p2, rfl, rfl, rfl, t0, t1, t2⟩ := trodAll_three hA
  obtain ⟨rfl, rfl⟩ := trodVars_none hV
  have k0 := hok 0 (Try.f3.params.getD 0 0) v0 (by kernel_rfl) rfl
  obtain ⟨y0, ht0⟩ : ∃ fs, Try.prog.underlying (Try.f3.params.getD 0 0) = some (.struct fs) := by
    have := kind0
    split at this
    · exact ⟨_, ‹_›⟩
    · cases this
  obtain ⟨c0, f0, a0⟩ := arg_struct (num := num) ht0 shape0 k0 t0
  obtain ⟨x0, rfl, h0⟩ := land_of f0
  have l0 : ∀ x ∈ p0, x.block < W.heap.size := fun x hx => hW'.lt x (by simp [hx])
  have k1 := hok 1 (Try.f3.params.getD 1 0) v1 (by kernel_rfl) rfl
  obtain ⟨x1, a1, h1⟩ := arg_str (num := num) kind1 k1 t1
  have l1 : ∀ x ∈ p1, x.block < W.heap.size := fun x hx => hW'.lt x (by simp [hx])
  have k2 := hok 2 (Try.f3.params.getD 2 0) v2 (by kernel_rfl) rfl
  obtain ⟨y2, ht2⟩ : ∃ e, Try.prog.underlying (Try.f3.params.getD 2 0) = some (.slice e) := by
    have := kind2
    split at this
    · exact ⟨_, ‹_›⟩
    · cases this
  obtain ⟨c2, f2, a2⟩ := arg_of_slice (num := num) ht2 shape2 k2 t2
  obtain ⟨x2, rfl, h2⟩ := fits_list (fun _ => want_of) f2
  have l2 : ∀ x ∈ p2, x.block < W.heap.size := fun x hx => hW'.lt x (by simp [hx])
  clear hA0
  refine (calls h0 a0 h1 a1 h2 a2).mono fun e W' ⟨he, hb⟩ => ?_
  subst he
  have b0 := Below.trod laidOut readable0 inTable0 t0 hb l0
  have b1 := Below.trod laidOut readable1 inTable1 t1 hb l1
  have b2 := Below.trod laidOut readable2 inTable2 t2 hb l2
  refine ⟨_, rfl, _, _, _, [], p0 ++ p1 ++ p2, [], hW', trodAll_mk1 (shut_bool Try.underlying4 _), ?_, rfl, hb.frame _, fun h => by cases h⟩
  rw [params]
  rw [List.append_assoc]
  exact trodAll_mk3 b0 b1 b2

theorem over : Rows.fnExactMatePutRow.holds Try.pinned (OpenSpec.ofChange Rows.fnExactMatePutSpec) :=
  OpenClaim.holds_of_wide 3 Try.f3 rfl rfl rfl rfl rfl rfl rfl ⟨rfl, rfl, rfl, rfl, rfl⟩ rfl rfl rfl rfl rfl (by kernel_rfl) Try.func3 (by kernel_rfl)
    (of_decide_eq_true (by kernel_rfl)) (by unfold Func.isWrapper; first | (rw [if_pos (by decide +kernel)]; kernel_rfl) | (rw [if_neg (by decide +kernel)]; exact ⟨rfl, rfl⟩))
    (fun os started H enc _ => lifted os started H enc)
end Go.Proofs.Ytgpedkkhndljiaa.FnExactMatePutRow

namespace Go.Proofs.Ytgpedkkhndljiaa
theorem fnExactMatePut_holds : Ytgpedkkhndljiaa.Rows.FnExactMatePutSaid := FnExactMatePutRow.over
end Go.Proofs.Ytgpedkkhndljiaa
