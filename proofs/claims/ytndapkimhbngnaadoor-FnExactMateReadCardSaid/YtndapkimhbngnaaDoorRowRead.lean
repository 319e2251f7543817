/- FnExactMateRead: for every input the law returns true. -/
import Derived.Test.YtndapkimhbngnaaDoorB6
import Derived.Test.YtndapkimhbngnaaDoorBind
import Derived.Test.YtndapkimhbngnaaDoorB5
import Derived.Test.YtndapkimhbngnaaDoorRows
import Derived.Test.YtndapkimhbngnaaDoorB7
import Derived.Test.YtndapkimhbngnaaDoorPrims
import Derived.Test.YtndapkimhbngnaaDoorCards
import Derived.Test.YtndapkimhbngnaaDoorTie
import Derived.SevenTiedAt
import Derived.JoinedOf
import Derived.WalkKit
import Derived.ProofKit
import Derived.OpenShut
import Derived.ChangeOld
import Derived.Below
import Derived.SizedLaws
import Derived.KernelRfl
import Derived.Carry
namespace Go.Proofs.YtndapkimhbngnaaDoor.FnExactMateReadRow
open Go.ChangeShapes Go.WideShapes Go.ChangeAt Go.RowKit Go.Proofs.YtndapkimhbngnaaDoor

theorem own : ownKnob Tryd.prog.godebug = none := by kernel_rfl
theorem laidOut : laidOutB Tryd.prog = true := by kernel_rfl
theorem params : Tryd.f3.params = #[Tryd.f3.params.getD 0 0] := by kernel_rfl
theorem readable0 : Tryd.prog.readableRec (Tryd.f3.params.getD 0 0) = true := by kernel_rfl
theorem inTable0 : (Tryd.f3.params.getD 0 0) < Tryd.prog.types.size := of_decide_eq_true (by kernel_rfl)
theorem kind0 : Tryd.prog.underlying (Tryd.f3.params.getD 0 0) = some .string := by kernel_rfl

theorem calls {W : World} {v0 : Value} {fz : List (Nat × Obj)} (hfz : ∀ p ∈ fz, W.heap[p.1]? = some p.2) (hp : PrimsOk Tryd.prog num fz) {x0 : T} (h0 : x0.size ≤ maxLen) (a0 : ArgRel num W v0 (.str x0)) : Calls Tryd.prog 3 #[v0] W fun e W' => e = .returned (.bool true) ∧ Below W.heap.size W W' := by
  have hC := tied_lim (tied hp) (k := 260) (f := 3) (by kernel_rfl) (read_law x0 h0)
  exact law_calls Tryd.func3 rfl (by decide) hC hfz srt (.cons _ _ _ _ a0 .nil)

/-- One start that fits: the listed variables hold what their initialisers lay. -/
noncomputable def low : Nat := (World.holding Tryd.prog default ⟨#[], #[], []⟩).heap.size
noncomputable def errT : TypeId := match (List.range Tryd.prog.types.size).find? (fun u => Tryd.prog.typeName? 3 u == some "*errors.errorString") with | some u => u | none => 0
noncomputable def errE : TypeId := match Tryd.prog.underlying errT with | some (.pointer u) => u | _ => 0
noncomputable def laidWorld (os : Os) : World :=
  let w0 := World.holding Tryd.prog os ⟨#[.cells #[.string ⟨#[118, 97, 108, 117, 101, 32, 111, 117, 116, 32, 111, 102, 32, 114, 97, 110, 103, 101]⟩] errE, .cells #[.string ⟨#[105, 110, 118, 97, 108, 105, 100, 32, 115, 121, 110, 116, 97, 120]⟩] errE], #[], []⟩
  { w0 with heap := putVar (putVar (putVar (putVar (putVar (putVar (putVar (w0.heap) ((Tryd.prog.globalNamed "math/bits.deBruijn32tab").getD 0) #[.int .u8 0, .int .u8 1, .int .u8 28, .int .u8 2, .int .u8 29, .int .u8 14, .int .u8 24, .int .u8 3, .int .u8 30, .int .u8 22, .int .u8 20, .int .u8 15, .int .u8 25, .int .u8 17, .int .u8 4, .int .u8 8, .int .u8 31, .int .u8 27, .int .u8 13, .int .u8 23, .int .u8 21, .int .u8 19, .int .u8 16, .int .u8 7, .int .u8 26, .int .u8 12, .int .u8 18, .int .u8 6, .int .u8 11, .int .u8 5, .int .u8 10, .int .u8 9]) ((Tryd.prog.globalNamed "math/bits.deBruijn64tab").getD 0) #[.int .u8 0, .int .u8 1, .int .u8 56, .int .u8 2, .int .u8 57, .int .u8 49, .int .u8 28, .int .u8 3, .int .u8 61, .int .u8 58, .int .u8 42, .int .u8 50, .int .u8 38, .int .u8 29, .int .u8 17, .int .u8 4, .int .u8 62, .int .u8 47, .int .u8 59, .int .u8 36, .int .u8 45, .int .u8 43, .int .u8 51, .int .u8 22, .int .u8 53, .int .u8 39, .int .u8 33, .int .u8 30, .int .u8 24, .int .u8 18, .int .u8 12, .int .u8 5, .int .u8 63, .int .u8 55, .int .u8 48, .int .u8 27, .int .u8 60, .int .u8 41, .int .u8 37, .int .u8 16, .int .u8 46, .int .u8 35, .int .u8 44, .int .u8 21, .int .u8 52, .int .u8 32, .int .u8 23, .int .u8 11, .int .u8 54, .int .u8 26, .int .u8 40, .int .u8 15, .int .u8 34, .int .u8 20, .int .u8 31, .int .u8 10, .int .u8 25, .int .u8 14, .int .u8 19, .int .u8 9, .int .u8 13, .int .u8 8, .int .u8 7, .int .u8 6]) ((Tryd.prog.globalNamed "internal/strconv.uint64pow10").getD 0) #[.int .u64 1, .int .u64 10, .int .u64 100, .int .u64 1000, .int .u64 10000, .int .u64 100000, .int .u64 1000000, .int .u64 10000000, .int .u64 100000000, .int .u64 1000000000, .int .u64 10000000000, .int .u64 100000000000, .int .u64 1000000000000, .int .u64 10000000000000, .int .u64 100000000000000, .int .u64 1000000000000000, .int .u64 10000000000000000, .int .u64 100000000000000000, .int .u64 1000000000000000000, .int .u64 10000000000000000000]) ((Tryd.prog.globalNamed "unicode/utf8.acceptRanges").getD 0) #[.int .u8 128, .int .u8 191, .int .u8 160, .int .u8 191, .int .u8 128, .int .u8 159, .int .u8 144, .int .u8 191, .int .u8 128, .int .u8 143, .int .u8 0, .int .u8 0, .int .u8 0, .int .u8 0, .int .u8 0, .int .u8 0, .int .u8 0, .int .u8 0, .int .u8 0, .int .u8 0, .int .u8 0, .int .u8 0, .int .u8 0, .int .u8 0, .int .u8 0, .int .u8 0, .int .u8 0, .int .u8 0, .int .u8 0, .int .u8 0, .int .u8 0, .int .u8 0]) ((Tryd.prog.globalNamed "unicode/utf8.first").getD 0) (Go.Pinned.utf8FirstZ.map fun (z : Nat) => Value.int .u8 (z : Int)).toArray) ((Tryd.prog.globalNamed "strconv.ErrRange").getD 0) #[.iface errT (.pointer (some ⟨low + 0, 0, none⟩))]) ((Tryd.prog.globalNamed "strconv.ErrSyntax").getD 0) #[.iface errT (.pointer (some ⟨low + 1, 0, none⟩))] }
theorem laid_met (os : Os) (args : Array Value) : laidMet Tryd.prog Rows.fnExactMateReadRow.laid ((laidWorld os).forCall (fun _ _ => 0) ⟨#[], args, []⟩).memory := laidMet_of_run' 8 (by kernel_rfl) (by kernel_rfl)
noncomputable def powT : TypeId := ((Tryd.prog.globals[((Tryd.prog.globalNamed "internal/strconv.uint64pow10").getD 0)]?).map (·.type)).getD 0
noncomputable def powE : TypeId := match Tryd.prog.underlying powT with | some (.array _ u) => u | _ => 0
theorem powG : Tryd.prog.globalNamed "internal/strconv.uint64pow10" = some ((Tryd.prog.globalNamed "internal/strconv.uint64pow10").getD 0) := by kernel_rfl
theorem powTab {W : World} (h : laidMet Tryd.prog Rows.fnExactMateReadRow.laid W) : Lib.TabIs Tryd.prog W "internal/strconv.uint64pow10" .u64 Lib.pow10Tab := by
  have e : (Rows.laid_internal_strconv_uint64pow10 : DataW Unit) = Lib.tabData .u64 Lib.pow10Tab := by kernel_rfl
  have h3 : laidMet Tryd.prog (("internal/strconv.uint64pow10", Rows.laid_internal_strconv_uint64pow10) :: [("unicode/utf8.acceptRanges", Rows.laid_unicode_utf8_acceptRanges), ("strconv.ErrRange", Rows.laid_strconv_ErrRange), ("strconv.ErrSyntax", Rows.laid_strconv_ErrSyntax), ("unicode/utf8.first", Rows.laid_unicode_utf8_first)]) W := h.tail.tail
  rw [e] at h3
  exact Lib.tabIs_of_head (t := powT) (e := powE) (n := 20) powG (by kernel_rfl) (by kernel_rfl) (by kernel_rfl) (by kernel_rfl) (by kernel_rfl) h3
/-- What is frozen, and that the library does as YtndapkimhbngnaaDoorLib says where it lies. -/
noncomputable def synT : TypeId := ((Tryd.prog.globals[Tryd.laysC172_ren.g 15]?).map (·.type)).getD 0
noncomputable def synM : Array (String × TypeId) := match Tryd.prog.underlying synT with | some (.interface ms) => ms | _ => #[]
noncomputable def rngT : TypeId := ((Tryd.prog.globals[Tryd.laysC172_ren.g 16]?).map (·.type)).getD 0
noncomputable def rngM : Array (String × TypeId) := match Tryd.prog.underlying rngT with | some (.interface ms) => ms | _ => #[]
theorem frozen {W : World} (hsh : W.ShapedOpen Tryd.prog) (h : laidMet Tryd.prog Rows.fnExactMateReadRow.laid W) : ∃ fz : List (Nat × Obj), (∀ p ∈ fz, W.heap[p.1]? = some p.2) ∧ PrimsOk Tryd.prog num fz := by
  obtain ⟨t, fr, hb⟩ := var_block powG (powTab h)
  obtain ⟨m, hm⟩ := Tryd.laysM146.s1_3 W hsh
  obtain ⟨o1, ho1⟩ := cell_block hm
  obtain ⟨e2, hv2, he2⟩ := iface_cell (ti := synT) (ms := synM) ((h.tail.tail.tail.tail.tail : laidMet Tryd.prog (("strconv.ErrSyntax", Rows.laid_strconv_ErrSyntax) :: [("unicode/utf8.first", Rows.laid_unicode_utf8_first)]) W)) Tryd.laysC172.m15 (by kernel_rfl) (by kernel_rfl)
  obtain ⟨o2, ho2⟩ := cell_block hv2
  obtain ⟨e3, hv3, he3⟩ := iface_cell (ti := rngT) (ms := rngM) ((h.tail.tail.tail.tail : laidMet Tryd.prog (("strconv.ErrRange", Rows.laid_strconv_ErrRange) :: [("strconv.ErrSyntax", Rows.laid_strconv_ErrSyntax), ("unicode/utf8.first", Rows.laid_unicode_utf8_first)]) W)) Tryd.laysC172.m16 (by kernel_rfl) (by kernel_rfl)
  obtain ⟨o3, ho3⟩ := cell_block hv3
  refine ⟨[(_, .cells _ t fr), (Tryd.laysM146_ren.g 1, o1), (Tryd.laysC172_ren.g 15, o2), (Tryd.laysC172_ren.g 16, o3)], fun p hp => ?_, prims (fun w hfz => var_of_block powG (hfz _ (.head _)).2) (fun w hfz => ⟨m, ?_⟩) (fun w hfz => ⟨e2, ?_, he2⟩) (fun w hfz => ⟨e3, ?_, he3⟩)⟩
  · simp only [List.mem_cons, List.not_mem_nil, or_false] at hp
    rcases hp with rfl | rfl | rfl | rfl
    · exact hb
    · exact ho1
    · exact ho2
    · exact ho3
  · rw [World.cell?_of_block (w := W) ((hfz _ (.tail _ (.head _))).2.trans ho1.symm)]; exact hm
  · rw [World.cell?_of_block (w := W) ((hfz _ (.tail _ (.tail _ (.head _)))).2.trans ho2.symm)]; exact hv2
  · rw [World.cell?_of_block (w := W) ((hfz _ (.tail _ (.tail _ (.tail _ (.head _))))).2.trans ho3.symm)]; exact hv3

set_option maxRecDepth 100000 in
theorem lifted (os : Os) (started : os.Started) (H : Type) (enc : TypeId × Value → H) :
    ReturnsInHanded {} Tryd.checked os 3 .any (fun w args => (Rows.fnExactMateReadSpec.pre enc Tryd.prog Tryd.f3 Rows.fnExactMateReadRow.domain false w args ∧ laidMet Tryd.prog Rows.fnExactMateReadRow.laid w) ∧ sizedMet enc Tryd.prog Tryd.f3 (OpenSpec.ofChange Rows.fnExactMateReadSpec) false w args) (Rows.fnExactMateReadSpec.post enc Tryd.prog Tryd.f3 false true false false) := by
  refine returns_wrap (C := Tryd.checked) (X := fun w _ => laidMet Tryd.prog Rows.fnExactMateReadRow.laid w) (fun _ _ _ hh h => h.of_heap hh) own started (by kernel_rfl) Tryd.func3
    (ChangeSpec.witness_at (enc := enc) (C := Tryd.checked) (os := os) (X := fun w _ => laidMet Tryd.prog Rows.fnExactMateReadRow.laid w) false (laidWorld os) #[.string ⟨#[]⟩] 8 rfl (by kernel_rfl) (by kernel_rfl) (by kernel_rfl) (by kernel_rfl) (by kernel_rfl) (laid_met os _)) ?_
  intro W base args ds gs before hok hW hsh hL
  obtain ⟨fz, hfz0, hp0⟩ := frozen hsh hL
  have hW' := hW
  obtain ⟨p, q, hA0, hV, rfl, hfz, hnd⟩ := hW
  have hA : DataW.TrodAll enc Tryd.prog W 0 (fun _ => true) true Tryd.f3.params.toList args.toList ds p := hA0
  rw [params] at hA
  obtain ⟨v0, d0, rfl, rfl, t0⟩ := trodAll_one hA
  obtain ⟨rfl, rfl⟩ := trodVars_none hV
  have k0 := hok 0 (Tryd.f3.params.getD 0 0) v0 (by kernel_rfl) rfl
  obtain ⟨x0, a0, h0⟩ := arg_str (num := num) kind0 k0 t0
  have l0 : ∀ x ∈ p, x.block < W.heap.size := fun x hx => hW'.lt x (by simp [hx])
  clear hA0
  refine (calls hfz0 hp0 h0 a0).mono fun e W' ⟨he, hb⟩ => ?_
  subst he
  have b0 := Below.trod laidOut readable0 inTable0 t0 hb l0
  refine ⟨_, rfl, _, _, _, [], p, [], hW', trodAll_mk1 (shut_bool Tryd.underlying4 _), ?_, rfl, hb.frame _, fun h => by cases h⟩
  rw [params]
  exact trodAll_mk1 b0

theorem over : Rows.fnExactMateReadRow.holds Tryd.pinned (OpenSpec.ofChange Rows.fnExactMateReadSpec) :=
  OpenClaim.holds_of_wide 3 Tryd.f3 rfl rfl rfl rfl rfl rfl rfl ⟨rfl, rfl, rfl, rfl, rfl⟩ rfl rfl rfl rfl rfl (by kernel_rfl) Tryd.func3 (by kernel_rfl)
    (of_decide_eq_true (by kernel_rfl)) (by unfold Func.isWrapper; first | (rw [if_pos (by decide +kernel)]; kernel_rfl) | (rw [if_neg (by decide +kernel)]; exact ⟨rfl, rfl⟩))
    (fun os started H enc _ => lifted os started H enc)
end Go.Proofs.YtndapkimhbngnaaDoor.FnExactMateReadRow

namespace Go.Proofs.YtndapkimhbngnaaDoor
open FnExactMateReadRow
theorem fnExactMateRead_holds : YtndapkimhbngnaaDoor.Rows.FnExactMateReadCardSaid :=
  Claim7.holds_tied_plain_at .later [] [.data, .data, .data, .data, .sentinel, .sentinel, .pinned] true (true, "cdec0771c8977d98acab83ab63f3ebc77fcb2b2024da4a8a4cdef7b88ccc41b1") true
    FnExactMateReadRow.over (fun _ h => by cases h) (by kernel_rfl) (fun _ h => by cases h) YtndapkimhbngnaaDoor.fnExactMateRead_row_tie rfl ⟨rfl, rfl⟩ (by kernel_rfl) rfl
    (fun f fn hf hfn => by
      obtain rfl : f = 3 := Option.some.inj ((show Tryd.prog.funcNamed "loop.example/wharfmate/laws.FnExactMateRead" = some 3 by kernel_rfl).symm.trans hf) |>.symm
      obtain rfl : fn = Tryd.f3 := (Option.some.inj (Tryd.func3.symm.trans hfn)).symm
      refine ⟨by kernel_rfl, fun j t ht => ?_⟩
      rw [params] at ht
      match j, ht with
      | 0, ht => obtain rfl : (Tryd.f3.params.getD 0 0) = t := Option.some.inj ht; exact (show Tryd.prog.wantsStandIn (Tryd.f3.params.getD 0 0) = false by kernel_rfl)
      | j + 1, ht => simp at ht)
    (by kernel_rfl)
end Go.Proofs.YtndapkimhbngnaaDoor
