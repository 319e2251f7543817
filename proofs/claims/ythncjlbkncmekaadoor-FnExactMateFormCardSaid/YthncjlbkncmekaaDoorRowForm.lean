/- FnExactMateForm: for every input the law returns true. -/
import Derived.Test.YthncjlbkncmekaaDoorB5
import Derived.Test.YthncjlbkncmekaaDoorBind
import Derived.Test.YthncjlbkncmekaaDoorB4
import Derived.Test.YthncjlbkncmekaaDoorRows
import Derived.Test.YthncjlbkncmekaaDoorB6
import Derived.Test.YthncjlbkncmekaaDoorPrims
import Derived.Test.YthncjlbkncmekaaDoorCards
import Derived.Test.YthncjlbkncmekaaDoorTie
import Derived.SevenTiedAt
import Derived.JoinedOf
import Derived.WalkKit
import Derived.ProofKit
import Derived.OpenShut
import Derived.ChangeOld
import Derived.Below
import Derived.SizedLaws
import Derived.KernelRfl
import Derived.Carry
namespace Go.Proofs.YthncjlbkncmekaaDoor.FnExactMateFormRow
open Go.ChangeShapes Go.WideShapes Go.ChangeAt Go.RowKit Go.Proofs.YthncjlbkncmekaaDoor

theorem own : ownKnob Tryd.prog.godebug = none := by kernel_rfl
theorem laidOut : laidOutB Tryd.prog = true := by kernel_rfl
theorem params : Tryd.f3.params = #[Tryd.f3.params.getD 0 0] := by kernel_rfl
theorem readable0 : Tryd.prog.readableRec (Tryd.f3.params.getD 0 0) = true := by kernel_rfl
theorem inTable0 : (Tryd.f3.params.getD 0 0) < Tryd.prog.types.size := of_decide_eq_true (by kernel_rfl)
theorem shape0 : shOf Tryd.prog 9 (Tryd.f3.params.getD 0 0) = some shParcel := by kernel_rfl
theorem kind0 : (match Tryd.prog.underlying (Tryd.f3.params.getD 0 0) with | some (.struct _) => true | _ => false) = true := by kernel_rfl

theorem calls {W : World} {v0 : Value} {fz : List (Nat × Obj)} (hfz : ∀ p ∈ fz, W.heap[p.1]? = some p.2) (hp : PrimsOk Tryd.prog num fz) {x0 : Parcel} (h0 : Parcel.wf x0) (a0 : ArgRel num W v0 (.agg (x0.c .bor))) : Calls Tryd.prog 3 #[v0] W fun e W' => e = .returned (.bool true) ∧ Below W.heap.size W W' := by
  have hC := tied_lim (tied hp) (k := 259) (f := 3) (by kernel_rfl) (form_law x0 h0)
  exact law_calls Tryd.func3 rfl (by decide) hC hfz srt (.cons _ _ _ _ a0 .nil)

/-- One start that fits: the listed variables hold what their initialisers lay. -/
noncomputable def laidWorld (os : Os) : World :=
  let w0 := World.holding Tryd.prog os ⟨#[], #[], []⟩
  { w0 with heap := putVar (putVar (putVar (w0.heap) ((Tryd.prog.globalNamed "math/bits.deBruijn32tab").getD 0) #[.int .u8 0, .int .u8 1, .int .u8 28, .int .u8 2, .int .u8 29, .int .u8 14, .int .u8 24, .int .u8 3, .int .u8 30, .int .u8 22, .int .u8 20, .int .u8 15, .int .u8 25, .int .u8 17, .int .u8 4, .int .u8 8, .int .u8 31, .int .u8 27, .int .u8 13, .int .u8 23, .int .u8 21, .int .u8 19, .int .u8 16, .int .u8 7, .int .u8 26, .int .u8 12, .int .u8 18, .int .u8 6, .int .u8 11, .int .u8 5, .int .u8 10, .int .u8 9]) ((Tryd.prog.globalNamed "math/bits.deBruijn64tab").getD 0) #[.int .u8 0, .int .u8 1, .int .u8 56, .int .u8 2, .int .u8 57, .int .u8 49, .int .u8 28, .int .u8 3, .int .u8 61, .int .u8 58, .int .u8 42, .int .u8 50, .int .u8 38, .int .u8 29, .int .u8 17, .int .u8 4, .int .u8 62, .int .u8 47, .int .u8 59, .int .u8 36, .int .u8 45, .int .u8 43, .int .u8 51, .int .u8 22, .int .u8 53, .int .u8 39, .int .u8 33, .int .u8 30, .int .u8 24, .int .u8 18, .int .u8 12, .int .u8 5, .int .u8 63, .int .u8 55, .int .u8 48, .int .u8 27, .int .u8 60, .int .u8 41, .int .u8 37, .int .u8 16, .int .u8 46, .int .u8 35, .int .u8 44, .int .u8 21, .int .u8 52, .int .u8 32, .int .u8 23, .int .u8 11, .int .u8 54, .int .u8 26, .int .u8 40, .int .u8 15, .int .u8 34, .int .u8 20, .int .u8 31, .int .u8 10, .int .u8 25, .int .u8 14, .int .u8 19, .int .u8 9, .int .u8 13, .int .u8 8, .int .u8 7, .int .u8 6]) ((Tryd.prog.globalNamed "internal/strconv.uint64pow10").getD 0) #[.int .u64 1, .int .u64 10, .int .u64 100, .int .u64 1000, .int .u64 10000, .int .u64 100000, .int .u64 1000000, .int .u64 10000000, .int .u64 100000000, .int .u64 1000000000, .int .u64 10000000000, .int .u64 100000000000, .int .u64 1000000000000, .int .u64 10000000000000, .int .u64 100000000000000, .int .u64 1000000000000000, .int .u64 10000000000000000, .int .u64 100000000000000000, .int .u64 1000000000000000000, .int .u64 10000000000000000000] }
theorem laid_met (os : Os) (args : Array Value) : laidMet Tryd.prog Rows.fnExactMateFormRow.laid ((laidWorld os).forCall (fun _ _ => 0) ⟨#[], args, []⟩).memory := laidMet_of_run' 8 (by kernel_rfl) (by kernel_rfl)
noncomputable def powT : TypeId := ((Tryd.prog.globals[((Tryd.prog.globalNamed "internal/strconv.uint64pow10").getD 0)]?).map (·.type)).getD 0
noncomputable def powE : TypeId := match Tryd.prog.underlying powT with | some (.array _ u) => u | _ => 0
theorem powG : Tryd.prog.globalNamed "internal/strconv.uint64pow10" = some ((Tryd.prog.globalNamed "internal/strconv.uint64pow10").getD 0) := by kernel_rfl
theorem powTab {W : World} (h : laidMet Tryd.prog Rows.fnExactMateFormRow.laid W) : Lib.TabIs Tryd.prog W "internal/strconv.uint64pow10" .u64 Lib.pow10Tab := by
  have e : (Rows.laid_internal_strconv_uint64pow10 : DataW Unit) = Lib.tabData .u64 Lib.pow10Tab := by kernel_rfl
  have h3 : laidMet Tryd.prog (("internal/strconv.uint64pow10", Rows.laid_internal_strconv_uint64pow10) :: []) W := h.tail.tail
  rw [e] at h3
  exact Lib.tabIs_of_head (t := powT) (e := powE) (n := 20) powG (by kernel_rfl) (by kernel_rfl) (by kernel_rfl) (by kernel_rfl) (by kernel_rfl) h3
/-- What is frozen, and that the library does as YthncjlbkncmekaaDoorLib says where it lies. -/
theorem frozen {W : World} (_ : W.ShapedOpen Tryd.prog) (h : laidMet Tryd.prog Rows.fnExactMateFormRow.laid W) : ∃ fz : List (Nat × Obj), (∀ p ∈ fz, W.heap[p.1]? = some p.2) ∧ PrimsOk Tryd.prog num fz := by
  obtain ⟨t, fr, hb⟩ := var_block powG (powTab h)
  exact ⟨[(_, .cells _ t fr)], fun p hp => by simp only [List.mem_singleton] at hp; subst hp; exact hb, prims fun w hfz => var_of_block powG (hfz _ (List.mem_singleton.2 rfl)).2⟩

set_option maxRecDepth 100000 in
theorem lifted (os : Os) (started : os.Started) (H : Type) (enc : TypeId × Value → H) :
    ReturnsInHanded {} Tryd.checked os 3 .any (fun w args => (Rows.fnExactMateFormSpec.pre enc Tryd.prog Tryd.f3 Rows.fnExactMateFormRow.domain false w args ∧ laidMet Tryd.prog Rows.fnExactMateFormRow.laid w) ∧ sizedMet enc Tryd.prog Tryd.f3 (OpenSpec.ofChange Rows.fnExactMateFormSpec) false w args) (Rows.fnExactMateFormSpec.post enc Tryd.prog Tryd.f3 false true false false) := by
  refine returns_wrap (C := Tryd.checked) (X := fun w _ => laidMet Tryd.prog Rows.fnExactMateFormRow.laid w) (fun _ _ _ hh h => h.of_heap hh) own started (by kernel_rfl) Tryd.func3
    (ChangeSpec.witness_at (enc := enc) (C := Tryd.checked) (os := os) (X := fun w _ => laidMet Tryd.prog Rows.fnExactMateFormRow.laid w) false (laidWorld os) #[.agg #[.int .i64 0, .string ⟨#[]⟩, .int .i64 0, .slice none 0 0, .string ⟨#[]⟩, .string ⟨#[]⟩, .int .i64 0]] 8 rfl (by kernel_rfl) (by kernel_rfl) (by kernel_rfl) (by kernel_rfl) (by kernel_rfl) (laid_met os _)) ?_
  intro W base args ds gs before hok hW hsh hL
  obtain ⟨fz, hfz0, hp0⟩ := frozen hsh hL
  have hW' := hW
  obtain ⟨p, q, hA0, hV, rfl, hfz, hnd⟩ := hW
  have hA : DataW.TrodAll enc Tryd.prog W 0 (fun _ => true) true Tryd.f3.params.toList args.toList ds p := hA0
  rw [params] at hA
  obtain ⟨v0, d0, rfl, rfl, t0⟩ := trodAll_one hA
  obtain ⟨rfl, rfl⟩ := trodVars_none hV
  have k0 := hok 0 (Tryd.f3.params.getD 0 0) v0 (by kernel_rfl) rfl
  obtain ⟨y0, ht0⟩ : ∃ fs, Tryd.prog.underlying (Tryd.f3.params.getD 0 0) = some (.struct fs) := by
    have := kind0
    split at this
    · exact ⟨_, ‹_›⟩
    · cases this
  obtain ⟨c0, f0, a0⟩ := arg_struct (num := num) ht0 shape0 k0 t0
  obtain ⟨x0, rfl, h0⟩ := parcel_of f0
  have l0 : ∀ x ∈ p, x.block < W.heap.size := fun x hx => hW'.lt x (by simp [hx])
  clear hA0
  refine (calls hfz0 hp0 h0 a0).mono fun e W' ⟨he, hb⟩ => ?_
  subst he
  have b0 := Below.trod laidOut readable0 inTable0 t0 hb l0
  refine ⟨_, rfl, _, _, _, [], p, [], hW', trodAll_mk1 (shut_bool Tryd.underlying4 _), ?_, rfl, hb.frame _, fun h => by cases h⟩
  rw [params]
  exact trodAll_mk1 b0

theorem over : Rows.fnExactMateFormRow.holds Tryd.pinned (OpenSpec.ofChange Rows.fnExactMateFormSpec) :=
  OpenClaim.holds_of_wide 3 Tryd.f3 rfl rfl rfl rfl rfl rfl rfl ⟨rfl, rfl, rfl, rfl, rfl⟩ rfl rfl rfl rfl rfl (by kernel_rfl) Tryd.func3 (by kernel_rfl)
    (of_decide_eq_true (by kernel_rfl)) (by unfold Func.isWrapper; first | (rw [if_pos (by decide +kernel)]; kernel_rfl) | (rw [if_neg (by decide +kernel)]; exact ⟨rfl, rfl⟩))
    (fun os started H enc _ => lifted os started H enc)
end Go.Proofs.YthncjlbkncmekaaDoor.FnExactMateFormRow

namespace Go.Proofs.YthncjlbkncmekaaDoor
open FnExactMateFormRow
theorem fnExactMateForm_holds : YthncjlbkncmekaaDoor.Rows.FnExactMateFormCardSaid :=
  Claim7.holds_tied_plain_at .later [] [.data, .data, .data] true (true, "da3386f7dd7e11d527fc91da9ce4b14cada052db274e41879088d3f0e40e76d4") false
    FnExactMateFormRow.over (fun _ h => by cases h) (by kernel_rfl) (fun _ h => by cases h) YthncjlbkncmekaaDoor.fnExactMateForm_row_tie rfl ⟨rfl, rfl⟩ (by kernel_rfl) rfl
    (fun f fn hf hfn => by
      obtain rfl : f = 3 := Option.some.inj ((show Tryd.prog.funcNamed "loop.example/wharfmate/laws.FnExactMateForm" = some 3 by kernel_rfl).symm.trans hf) |>.symm
      obtain rfl : fn = Tryd.f3 := (Option.some.inj (Tryd.func3.symm.trans hfn)).symm
      refine ⟨by kernel_rfl, fun j t ht => ?_⟩
      rw [params] at ht
      match j, ht with
      | 0, ht => obtain rfl : (Tryd.f3.params.getD 0 0) = t := Option.some.inj ht; exact (show Tryd.prog.wantsStandIn (Tryd.f3.params.getD 0 0) = false by kernel_rfl)
      | j + 1, ht => simp at ht)
    (by kernel_rfl)
end Go.Proofs.YthncjlbkncmekaaDoor
