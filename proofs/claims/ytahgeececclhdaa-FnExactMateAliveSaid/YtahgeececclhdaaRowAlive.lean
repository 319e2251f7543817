/- FnExactMateAlive: for every input the law returns true. -/
import Derived.Test.YtahgeececclhdaaPureAlive
import Derived.Test.YtahgeececclhdaaTie
import Derived.Test.YtahgeececclhdaaLaw
import Derived.Test.YtahgeececclhdaaRows
import Derived.WalkKit
import Derived.ProofKit
import Derived.OpenShut
import Derived.ChangeOld
import Derived.Below
import Derived.SizedLaws
import Derived.KernelRfl
namespace Go.Proofs.Ytahgeececclhdaa.AliveLaw
open Go.ChangeShapes Go.WideShapes Go.ChangeAt Go.RowKit Go.Proofs.Ytahgeececclhdaa

theorem own : ownKnob Try.prog.godebug = none := by kernel_rfl

/-- The shape of the argument's cells. -/
def sh : List Sh := [.str, .int .i64, .str, .int .i64, .int .i64, .int .i64, .int .i64, .int .i64, .int .i64, .int .i64, .int .i64]

theorem fits {c : List AV} (h : FitsL sh c) : ∃ (s1 : ByteArray) (n1 : Int) (s2 : ByteArray) (n2 n3 n4 n5 m1 m2 m3 m4 : Int), c = [.str s1, .int .i64 n1, .str s2, .int .i64 n2, .int .i64 n3, .int .i64 n4, .int .i64 n5, .int .i64 m1, .int .i64 m2, .int .i64 m3, .int .i64 m4] := by
  have hl := h.len
  simp only [sh, List.length_cons, List.length_nil] at hl
  match c, hl, h with
  | [a1, a2, a3, a4, a5, a6, a7, a8, a9, a10, a11], _, h =>
    simp only [sh, FitsL, Fits, and_true] at h
    obtain ⟨⟨s1, rfl, _⟩, ⟨n1, rfl, _⟩, ⟨s2, rfl, _⟩, ⟨n2, rfl, _⟩, ⟨n3, rfl, _⟩, ⟨n4, rfl, _⟩, ⟨n5, rfl, _⟩, ⟨m1, rfl, _⟩, ⟨m2, rfl, _⟩, ⟨m3, rfl, _⟩, ⟨m4, rfl, _⟩⟩ := h
    exact ⟨s1, n1, s2, n2, n3, n4, n5, m1, m2, m3, m4, rfl⟩

theorem shape : shOf Try.prog 5 (Try.f4.params.getD 0 0) = some sh := by kernel_rfl
theorem isStruct : (match Try.prog.underlying (Try.f4.params.getD 0 0) with | some (.struct _) => true | _ => false) = true := by kernel_rfl
theorem laidOut : laidOutB Try.prog = true := by kernel_rfl
theorem oneParam : Try.f4.params = #[Try.f4.params.getD 0 0] := by kernel_rfl
theorem readable : Try.prog.readableRec (Try.f4.params.getD 0 0) = true := by kernel_rfl
theorem inTable : Try.f4.params.getD 0 0 < Try.prog.types.size := of_decide_eq_true (by kernel_rfl)

theorem calls {W : World} {v : Value} {avs : List AV} (ha : ArgRel num W v (.agg avs)) (hf : FitsL sh avs) : Calls Try.prog 4 #[v] W fun e W' => e = .returned (.bool true) ∧ Below W.heap.size W W' := by
  obtain ⟨s1, n1, s2, n2, n3, n4, n5, m1, m2, m3, m4, rfl⟩ := fits hf
  have hC := tied.call 3 164 4 _ _ _ _ (by kernel_rfl) (alive_law 0 s1 n1 s2 n2 n3 n4 n5 m1 m2 m3 m4)
  exact law_calls Try.func4 rfl (by decide) hC (.cons _ _ _ _ ha .nil)

set_option maxRecDepth 100000 in
theorem lifted (os : Os) (started : os.Started) (H : Type) (enc : TypeId × Value → H) :
    ReturnsInHanded {} Try.checked os 4 .any (Rows.fnExactMateAliveSpec.pre6 enc Try.prog Try.f4 Rows.fnExactMateAliveRow.domain false) (Rows.fnExactMateAliveSpec.post enc Try.prog Try.f4 false true false false) := by
  refine returnsInHanded_of_change_sized (C := Try.checked) own started (by kernel_rfl) Try.func4
    (ChangeSpec.witness6 (enc := enc) (C := Try.checked) false ⟨#[], #[.agg #[.string ⟨#[]⟩, .int .i64 0, .string ⟨#[]⟩, .int .i64 0, .int .i64 0, .int .i64 0, .int .i64 0, .int .i64 0, .int .i64 0, .int .i64 0, .int .i64 0]], []⟩ 8 (by kernel_rfl) (by kernel_rfl) (by kernel_rfl) (by kernel_rfl)) ?_
  intro W base args ds gs before hok hW _ _ _
  have hW' := hW
  obtain ⟨p, q, hA0, hV, rfl, hfz, hnd⟩ := hW
  have hA : DataW.TrodAll enc Try.prog W 0 (fun _ => true) true Try.f4.params.toList args.toList ds p := hA0
  rw [oneParam] at hA
  obtain ⟨v, d, rfl, rfl, h0⟩ := trodAll_one hA
  obtain ⟨rfl, rfl⟩ := trodVars_none hV
  have hv := hok 0 (Try.f4.params.getD 0 0) v (by kernel_rfl) rfl
  obtain ⟨fs, ht⟩ : ∃ fs, Try.prog.underlying (Try.f4.params.getD 0 0) = some (.struct fs) := by
    have := isStruct
    split at this
    · exact ⟨_, ‹_›⟩
    · cases this
  obtain ⟨avs, hf, ha⟩ := arg_struct (num := num) ht shape hv h0
  have hlt : ∀ x ∈ p, x.block < W.heap.size := fun x hx => hW'.lt x (List.mem_append.2 (.inl hx))
  clear hA0
  refine (calls ha hf).mono fun e W' ⟨he, hb⟩ => ?_
  subst he
  have hback := Below.trod laidOut readable inTable h0 hb hlt
  refine ⟨_, rfl, _, _, _, [], p, [], hW', trodAll_mk1 (shut_bool Try.underlying4 _), ?_, rfl, hb.frame _, fun h => by cases h⟩
  rw [oneParam]
  exact trodAll_mk1 hback

theorem over : Rows.fnExactMateAliveRow.holds Try.pinned (OpenSpec.ofChange Rows.fnExactMateAliveSpec) :=
  OpenClaim.holds_of_wide 4 Try.f4 rfl rfl rfl rfl rfl rfl rfl ⟨rfl, rfl, rfl, rfl, rfl⟩ rfl rfl rfl rfl rfl (by kernel_rfl) Try.func4 (by kernel_rfl)
    (of_decide_eq_true (by kernel_rfl)) (by unfold Func.isWrapper; first | (rw [if_pos (by decide +kernel)]; kernel_rfl) | (rw [if_neg (by decide +kernel)]; exact ⟨rfl, rfl⟩))
    (fun os started H enc _ => lifted os started H enc)
end Go.Proofs.Ytahgeececclhdaa.AliveLaw

namespace Go.Proofs.Ytahgeececclhdaa
theorem fnExactMateAlive_holds : Ytahgeececclhdaa.Rows.FnExactMateAliveSaid := AliveLaw.over
end Go.Proofs.Ytahgeececclhdaa
