/- FnMate: for every input the law returns true. -/
import Derived.Test.YtpiljklnekefoaaGreatDoorB7
import Derived.Test.YtpiljklnekefoaaGreatDoorBind
import Derived.Test.YtpiljklnekefoaaGreatDoorB5
import Derived.Test.YtpiljklnekefoaaGreatDoorRows
import Derived.Test.YtpiljklnekefoaaGreatDoorB8
import Derived.Test.YtpiljklnekefoaaGreatDoorPrims
import Derived.Test.YtpiljklnekefoaaGreatDoorCards
import Derived.Test.YtpiljklnekefoaaGreatDoorTie
import Derived.SevenTiedAt
import Derived.JoinedOf
import Derived.WalkKit
import Derived.ProofKit
import Derived.OpenShut
import Derived.ChangeOld
import Derived.Below
import Derived.SizedLaws
import Derived.KernelRfl
import Derived.Carry
namespace Go.Proofs.YtpiljklnekefoaaGreatDoor.FnMateRow
open Go.ChangeShapes Go.WideShapes Go.ChangeAt Go.RowKit Go.Proofs.YtpiljklnekefoaaGreatDoor

theorem own : ownKnob Tryz.prog.godebug = none := by kernel_rfl
theorem laidOut : laidOutB Tryz.prog = true := by kernel_rfl
theorem params : Tryz.f3.params = #[Tryz.f3.params.getD 0 0] := by kernel_rfl
theorem readable0 : Tryz.prog.readableRec (Tryz.f3.params.getD 0 0) = true := by kernel_rfl
theorem inTable0 : (Tryz.f3.params.getD 0 0) < Tryz.prog.types.size := of_decide_eq_true (by kernel_rfl)
theorem shape0 : shOf Tryz.prog 9 (Tryz.f3.params.getD 0 0) = some [.sl [.int .u8]] := by kernel_rfl
theorem kind0 : (match Tryz.prog.underlying (Tryz.f3.params.getD 0 0) with | some (.slice _) => true | _ => false) = true := by kernel_rfl

set_option maxRecDepth 100000 in
theorem calls {W : World} {v0 : Value} {fz : List (Nat × Obj)} (hfz : ∀ p ∈ fz, W.heap[p.1]? = some p.2) (hp : PrimsOk Tryz.prog num fz) {x0 : List Int} (h0 : ListWf Byte x0) (a0 : ArgRel num W v0 (.sl .imm 1 (x0.map rowB))) : Calls Tryz.prog 3 #[v0] W fun e W' => e = .returned (.bool true) ∧ Below W.heap.size W W' := by
  have hC := tied_lim (tied hp) (k := 268) (f := 3) (by kernel_rfl) (mate_law x0 h0)
  exact law_calls Tryz.func3 rfl (by decide) hC hfz srt (.cons _ _ _ _ a0 .nil)

/-- One start that fits: the listed variables hold what their initialisers lay. -/
noncomputable def laidWorld (os : Os) : World :=
  let w0 := World.holding Tryz.prog os ⟨#[], #[], []⟩
  { w0 with heap := putVar (putVar (putVar (w0.heap) ((Tryz.prog.globalNamed "math/bits.deBruijn32tab").getD 0) #[.int .u8 0, .int .u8 1, .int .u8 28, .int .u8 2, .int .u8 29, .int .u8 14, .int .u8 24, .int .u8 3, .int .u8 30, .int .u8 22, .int .u8 20, .int .u8 15, .int .u8 25, .int .u8 17, .int .u8 4, .int .u8 8, .int .u8 31, .int .u8 27, .int .u8 13, .int .u8 23, .int .u8 21, .int .u8 19, .int .u8 16, .int .u8 7, .int .u8 26, .int .u8 12, .int .u8 18, .int .u8 6, .int .u8 11, .int .u8 5, .int .u8 10, .int .u8 9]) ((Tryz.prog.globalNamed "math/bits.deBruijn64tab").getD 0) #[.int .u8 0, .int .u8 1, .int .u8 56, .int .u8 2, .int .u8 57, .int .u8 49, .int .u8 28, .int .u8 3, .int .u8 61, .int .u8 58, .int .u8 42, .int .u8 50, .int .u8 38, .int .u8 29, .int .u8 17, .int .u8 4, .int .u8 62, .int .u8 47, .int .u8 59, .int .u8 36, .int .u8 45, .int .u8 43, .int .u8 51, .int .u8 22, .int .u8 53, .int .u8 39, .int .u8 33, .int .u8 30, .int .u8 24, .int .u8 18, .int .u8 12, .int .u8 5, .int .u8 63, .int .u8 55, .int .u8 48, .int .u8 27, .int .u8 60, .int .u8 41, .int .u8 37, .int .u8 16, .int .u8 46, .int .u8 35, .int .u8 44, .int .u8 21, .int .u8 52, .int .u8 32, .int .u8 23, .int .u8 11, .int .u8 54, .int .u8 26, .int .u8 40, .int .u8 15, .int .u8 34, .int .u8 20, .int .u8 31, .int .u8 10, .int .u8 25, .int .u8 14, .int .u8 19, .int .u8 9, .int .u8 13, .int .u8 8, .int .u8 7, .int .u8 6]) ((Tryz.prog.globalNamed "internal/strconv.uint64pow10").getD 0) #[.int .u64 1, .int .u64 10, .int .u64 100, .int .u64 1000, .int .u64 10000, .int .u64 100000, .int .u64 1000000, .int .u64 10000000, .int .u64 100000000, .int .u64 1000000000, .int .u64 10000000000, .int .u64 100000000000, .int .u64 1000000000000, .int .u64 10000000000000, .int .u64 100000000000000, .int .u64 1000000000000000, .int .u64 10000000000000000, .int .u64 100000000000000000, .int .u64 1000000000000000000, .int .u64 10000000000000000000] }
theorem laid_met (os : Os) (args : Array Value) : laidMet Tryz.prog Rows.fnMateRow.laid ((laidWorld os).forCall (fun _ _ => 0) ⟨#[], args, []⟩).memory := laidMet_of_run' 8 (by kernel_rfl) (by kernel_rfl)
noncomputable def powT : TypeId := ((Tryz.prog.globals[((Tryz.prog.globalNamed "internal/strconv.uint64pow10").getD 0)]?).map (·.type)).getD 0
noncomputable def powE : TypeId := match Tryz.prog.underlying powT with | some (.array _ u) => u | _ => 0
theorem powG : Tryz.prog.globalNamed "internal/strconv.uint64pow10" = some ((Tryz.prog.globalNamed "internal/strconv.uint64pow10").getD 0) := by kernel_rfl
theorem powTab {W : World} (h : laidMet Tryz.prog Rows.fnMateRow.laid W) : Lib.TabIs Tryz.prog W "internal/strconv.uint64pow10" .u64 Lib.pow10Tab := by
  have e : (Rows.laid_internal_strconv_uint64pow10 : DataW Unit) = Lib.tabData .u64 Lib.pow10Tab := by kernel_rfl
  have h3 : laidMet Tryz.prog (("internal/strconv.uint64pow10", Rows.laid_internal_strconv_uint64pow10) :: []) W := h.tail.tail
  rw [e] at h3
  exact Lib.tabIs_of_head (t := powT) (e := powE) (n := 20) powG (by kernel_rfl) (by kernel_rfl) (by kernel_rfl) (by kernel_rfl) (by kernel_rfl) h3
/-- What is frozen, and that the library does as YtpiljklnekefoaaGreatDoorLib says where it lies. -/
theorem frozen {W : World} (_ : W.ShapedOpen Tryz.prog) (h : laidMet Tryz.prog Rows.fnMateRow.laid W) : ∃ fz : List (Nat × Obj), (∀ p ∈ fz, W.heap[p.1]? = some p.2) ∧ PrimsOk Tryz.prog num fz := by
  obtain ⟨t, fr, hb⟩ := var_block powG (powTab h)
  exact ⟨[(_, .cells _ t fr)], fun p hp => by simp only [List.mem_singleton] at hp; subst hp; exact hb, prims fun w hfz => var_of_block powG (hfz _ (List.mem_singleton.2 rfl)).2⟩

set_option maxRecDepth 100000 in
theorem lifted (os : Os) (started : os.Started) (H : Type) (enc : TypeId × Value → H) :
    ReturnsInHanded {} Tryz.checked os 3 .any (fun w args => (Rows.fnMateSpec.pre enc Tryz.prog Tryz.f3 Rows.fnMateRow.domain false w args ∧ laidMet Tryz.prog Rows.fnMateRow.laid w) ∧ sizedMet enc Tryz.prog Tryz.f3 (OpenSpec.ofChange Rows.fnMateSpec) false w args) (Rows.fnMateSpec.post enc Tryz.prog Tryz.f3 false true false false) := by
  refine returns_wrap (C := Tryz.checked) (X := fun w _ => laidMet Tryz.prog Rows.fnMateRow.laid w) (fun _ _ _ hh h => h.of_heap hh) own started (by kernel_rfl) Tryz.func3
    (ChangeSpec.witness_at (enc := enc) (C := Tryz.checked) (os := os) (X := fun w _ => laidMet Tryz.prog Rows.fnMateRow.laid w) false (laidWorld os) #[.slice none 0 0] 8 rfl (by kernel_rfl) (by kernel_rfl) (by kernel_rfl) (by kernel_rfl) (by kernel_rfl) (laid_met os _)) ?_
  intro W base args ds gs before hok hW hsh hL
  obtain ⟨fz, hfz0, hp0⟩ := frozen hsh hL
  have hW' := hW
  obtain ⟨p, q, hA0, hV, rfl, hfz, hnd⟩ := hW
  have hA : DataW.TrodAll enc Tryz.prog W 0 (fun _ => true) true Tryz.f3.params.toList args.toList ds p := hA0
  rw [params] at hA
  obtain ⟨v0, d0, rfl, rfl, t0⟩ := trodAll_one hA
  obtain ⟨rfl, rfl⟩ := trodVars_none hV
  have k0 := hok 0 (Tryz.f3.params.getD 0 0) v0 (by kernel_rfl) rfl
  obtain ⟨y0, ht0⟩ : ∃ e, Tryz.prog.underlying (Tryz.f3.params.getD 0 0) = some (.slice e) := by
    have := kind0
    split at this
    · exact ⟨_, ‹_›⟩
    · cases this
  obtain ⟨c0, f0, a0⟩ := arg_of_slice (num := num) ht0 shape0 k0 t0
  obtain ⟨x0, rfl, h0⟩ := fits_list (fun _ => byte1_of) f0
  replace a0 := a0.imm
  have l0 : ∀ x ∈ p, x.block < W.heap.size := fun x hx => hW'.lt x (by simp [hx])
  clear hA0
  refine (calls hfz0 hp0 h0 a0).mono fun e W' ⟨he, hb⟩ => ?_
  subst he
  have b0 := Below.trod laidOut readable0 inTable0 t0 hb l0
  refine ⟨_, rfl, _, _, _, [], p, [], hW', trodAll_mk1 (shut_bool Tryz.underlying4 _), ?_, rfl, hb.frame _, fun h => by cases h⟩
  rw [params]
  exact trodAll_mk1 b0

theorem band {a b : Bool} (h : a = true) (k : b = true) : (a && b) = true := by rw [h, k]; rfl
theorem fact0 : (Rows.fnMateRow.wf (OpenSpec.ofChange Rows.fnMateSpec) : Bool) = true := by kernel_rfl
theorem fact1 : (laidOutB Tryz.prog : Bool) = true := by kernel_rfl
theorem fact2 : (mapsRowed Tryz.prog : Bool) = true := by kernel_rfl
theorem fact3 : (Tryz.f3.params.all (Tryz.prog.readableRec ·) : Bool) = true := by kernel_rfl
theorem fact4 : (namedTie Tryz.prog Rows.fnMateRow.named Rows.fnMateSpec.vars : Bool) = true := by kernel_rfl
theorem fact5 : ((Rows.fnMateRow.stops == []) : Bool) = true := by kernel_rfl
theorem fact6 : ((Tryz.prog.stops == []) : Bool) = true := by kernel_rfl
theorem fact7 : ((Rows.fnMateRow.knobs == []) : Bool) = true := by kernel_rfl
theorem fact8 : ((Tryz.prog.stopKnobs == []) : Bool) = true := by kernel_rfl
theorem fact9 : ((Rows.fnMateRow.inPlace == Tryz.prog.inPlace 3) : Bool) = true := by kernel_rfl
theorem fact10 : ((Rows.fnMateRow.unfollowed == Tryz.prog.unfollowed 3) : Bool) = true := by kernel_rfl
theorem fact11 : ((Rows.fnMateRow.recurses == Tryz.prog.recurses 3) : Bool) = true := by kernel_rfl
theorem fact12 : ((Rows.fnMateRow.named == Tryz.prog.varsNamed 3) : Bool) = true := by kernel_rfl
theorem fact13 : ((Rows.fnMateRow.maps == (Tryz.f3.params.toList ++ Rows.fnMateSpec.plain.varTypes Tryz.prog ).any (Tryz.prog.mapsRec ·)) : Bool) = true := by kernel_rfl
theorem fact14 : ((Rows.fnMateRow.ifaces == (Tryz.f3.params.toList ++ Rows.fnMateSpec.plain.varTypes Tryz.prog ).any (Tryz.prog.ifacesRec ·)) : Bool) = true := by kernel_rfl
theorem fact15 : ((Rows.fnMateRow.mapsOut == Tryz.prog.mapsAmong Tryz.f3.resultTypes.toList) : Bool) = true := by kernel_rfl
theorem fact16 : ((Rows.fnMateRow.loops == (Tryz.f3.params.toList ++ Rows.fnMateSpec.plain.varTypes Tryz.prog ).any (Tryz.prog.loopsFrom ·)) : Bool) = true := by kernel_rfl
theorem fact17 : ((Rows.fnMateRow.wideKeys == (Tryz.f3.params.toList ++ Rows.fnMateSpec.plain.varTypes Tryz.prog ++ Tryz.f3.resultTypes.toList).any (Tryz.prog.wideKeysFrom ·)) : Bool) = true := by kernel_rfl
theorem fact18 : (Rows.fnMateSpec.vars.all (Tryz.prog.varReadable ·) : Bool) = true := by kernel_rfl
theorem fact19 : (Tryz.f3.resultTypes.all (fun t => Tryz.prog.readableRec t && decide (t < Tryz.prog.types.size)) : Bool) = true := by kernel_rfl
theorem fact20 : ((Rows.fnMateRow.ifacesOut == Tryz.f3.resultTypes.toList.any (Tryz.prog.ifacesRec ·)) : Bool) = true := by kernel_rfl
theorem fact21 : ((Rows.fnMateRow.loopsOut == Tryz.f3.resultTypes.toList.any (Tryz.prog.loopsFrom ·)) : Bool) = true := by kernel_rfl
theorem fact22 : ((Rows.fnMateRow.plainKeys == Tryz.prog.plainKeys) : Bool) = true := by kernel_rfl
theorem fact23 : (Rows.fnMateRow.shortTexts.isNone : Bool) = true := by kernel_rfl
theorem fact24 : (Tryz.prog.stopsHeard : Bool) = true := by kernel_rfl
theorem fact25 : (Tryz.prog.mayEnter : Bool) = true := by kernel_rfl
theorem fact26 : ((Rows.fnMateRow.lifted == Tryz.prog.liftsFinal) : Bool) = true := by kernel_rfl
theorem fact27 : ((Tryz.prog.make == some Rows.fnMateRow.make) : Bool) = true := by kernel_rfl
theorem fact28 : ((Rows.fnMateRow.kinds == (if Rows.fnMateRow.domain.isEmpty then [] else Tryz.f3.params.toList.map fun t => match Tryz.prog.underlying t with | some (.int k) => some k | _ => none)) : Bool) = true := by kernel_rfl
theorem fact29 : ((Rows.fnMateRow.pinned == Rows.fnMateRow.pinnedBy) : Bool) = true := by kernel_rfl
theorem fact30 : ((Rows.fnMateRow.veiled == (Tryz.f3.params.toList ++ Rows.fnMateSpec.plain.varTypes Tryz.prog ++ Tryz.f3.resultTypes.toList).any (Tryz.prog.veiledRec ·)) : Bool) = true := by kernel_rfl
theorem fact31 : (Rows.fnMateRow.veiledFits Tryz.prog Tryz.f3.params.toList (Tryz.f3.params.toList ++ Rows.fnMateSpec.plain.varTypes Tryz.prog ++ Tryz.f3.resultTypes.toList) : Bool) = true := by kernel_rfl
set_option maxRecDepth 100000 in
theorem joined : joinedFacts Tryz.prog 3 Tryz.f3 Rows.fnMateSpec Rows.fnMateRow = true := band (band (band (band (band (band (band (band (band (band (band (band (band (band (band (band (band (band (band (band (band (band (band (band (band (band (band (band (band (band (band fact0 fact1) fact2) fact3) fact4) fact5) fact6) fact7) fact8) fact9) fact10) fact11) fact12) fact13) fact14) fact15) fact16) fact17) fact18) fact19) fact20) fact21) fact22) fact23) fact24) fact25) fact26) fact27) fact28) fact29) fact30) fact31
theorem over : Rows.fnMateRow.holds Tryz.pinned (OpenSpec.ofChange Rows.fnMateSpec) :=
  OpenClaim.holds_of_wide 3 Tryz.f3 rfl rfl rfl rfl rfl rfl rfl ⟨rfl, rfl, rfl, rfl, rfl⟩ rfl rfl rfl rfl rfl (by kernel_rfl) Tryz.func3 joined
    (of_decide_eq_true (by kernel_rfl)) (by unfold Func.isWrapper; first | (rw [if_pos (by decide +kernel)]; kernel_rfl) | (rw [if_neg (by decide +kernel)]; exact ⟨rfl, rfl⟩))
    (fun os started H enc _ => lifted os started H enc)
end Go.Proofs.YtpiljklnekefoaaGreatDoor.FnMateRow

namespace Go.Proofs.YtpiljklnekefoaaGreatDoor
open FnMateRow
theorem fnMate_holds : YtpiljklnekefoaaGreatDoor.Rows.FnMateCardSaid :=
  Claim7.holds_tied_plain_at .later [] [.data, .data, .data] true (true, "9ae2cc0d4a40f5319444b6946eac6010ac921bc381427f3dfc8f04e19a043c1c") false
    FnMateRow.over (fun _ h => by cases h) (by kernel_rfl) (fun _ h => by cases h) YtpiljklnekefoaaGreatDoor.fnMate_row_tie rfl ⟨rfl, rfl⟩ (by kernel_rfl) rfl
    (fun f fn hf hfn => by
      obtain rfl : f = 3 := Option.some.inj ((show Tryz.prog.funcNamed "loop.example/wharfmate/laws.FnMate" = some 3 by kernel_rfl).symm.trans hf) |>.symm
      obtain rfl : fn = Tryz.f3 := (Option.some.inj (Tryz.func3.symm.trans hfn)).symm
      refine ⟨by kernel_rfl, fun j t ht => ?_⟩
      rw [params] at ht
      match j, ht with
      | 0, ht => obtain rfl : (Tryz.f3.params.getD 0 0) = t := Option.some.inj ht; exact (show Tryz.prog.wantsStandIn (Tryz.f3.params.getD 0 0) = false by kernel_rfl)
      | j + 1, ht => simp at ht)
    (by kernel_rfl)
end Go.Proofs.YtpiljklnekefoaaGreatDoor
