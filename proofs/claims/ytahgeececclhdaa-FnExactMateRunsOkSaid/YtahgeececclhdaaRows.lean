/-
  No cell of these rows narrows 'for every input' (looked for: loops, veiled, ifaces, maps, wideKeys, modest, calm, conditions, laid).
  DERIVED. THE GIVEN ROWS OF THIS SEAT. 4 by the template 'for every input the law returns true; each argument reads behind the call as it read before'; 0 by the template 'total and deterministic' (their statements: YtahgeececclhdaaTotals.lean).
  GIVEN WITH THE SEED: the statements are not yours to turn. If you find one false, say at which input.
  Laid BY PROGRAM, IN A SANDBOX (cutbox-rows.mjs): the forced cells as the released guide's own fill.sh prints them over the translation d69974ebb0f17cc4… (all of the seat's roots in one cut). By AI agents, Wed Nov 11 2026. No macro, syntax, notation, axiom, sorry.
-/
import Derived.Test.YtahgeececclhdaaChecked
import GoSem.Claim
import GoSem.ClaimJoined
import GoSem.ClaimMapViews
import Derived.JoinedTies
import Derived.KernelRfl
namespace Go.Proofs.Ytahgeececclhdaa
/- THE CELL 'sum', in the pinned program and in every row, IS THE sha256 OF THE DUMP (.gsa) THAT YtahgeececclhdaaProg.lean LOADS. Nothing in Lean hashes anything: it is a label: what it is worth is what the hold of that sum in a sandbox is worth. -/
noncomputable def Try.pinned : Pinned := { name := "ytahgeececclhdaa", sum := "d69974ebb0f17cc4dcf15c835884e31fa0fd89e315765aaee62abc2a01e7476e", checked := Try.checked }
namespace Rows
def none {H : Type} : Left H := { results := [], args := [] }

/-- 'laws.FnExactConstants': WHATEVER THE INPUT: true; the input reads as it did. -/
def fnExactConstantsSpec : ChangeSpec := { name := "fnExactConstants", fn := fun _ => fun
  | [] => { results := [.lit (.bool true)], args := [] }
  | _ => none }
def fnExactConstantsRow : OpenClaim := { program := "ytahgeececclhdaa", sum := "d69974ebb0f17cc4dcf15c835884e31fa0fd89e315765aaee62abc2a01e7476e", func := "loop.example/wharfmate/laws.FnExactConstants", spec := "fnExactConstants", apart := false }
def FnExactConstantsSaid : Prop := fnExactConstantsRow.holds Try.pinned (OpenSpec.ofChange fnExactConstantsSpec)

/-- ITS FALSE NEIGHBOUR: 'it returns false'. Refute it at one input. -/
def fnExactConstantsWrong : ChangeSpec := { name := "fnExactConstants", fn := fun _ => fun
  | [] => { results := [.lit (.bool false)], args := [] }
  | _ => none }
def FnExactConstantsWrongFalsely : Prop := fnExactConstantsRow.holds Try.pinned (OpenSpec.ofChange fnExactConstantsWrong)

/-- 'laws.FnExactMateAlive': WHATEVER THE INPUT: true; the input reads as it did. -/
def fnExactMateAliveSpec : ChangeSpec := { name := "fnExactMateAlive", fn := fun _ => fun
  | [d] => { results := [.lit (.bool true)], args := [d] }
  | _ => none }
def fnExactMateAliveRow : OpenClaim := { program := "ytahgeececclhdaa", sum := "d69974ebb0f17cc4dcf15c835884e31fa0fd89e315765aaee62abc2a01e7476e", func := "loop.example/wharfmate/laws.FnExactMateAlive", spec := "fnExactMateAlive", apart := false }
def FnExactMateAliveSaid : Prop := fnExactMateAliveRow.holds Try.pinned (OpenSpec.ofChange fnExactMateAliveSpec)

/-- ITS FALSE NEIGHBOUR: 'it returns false'. Refute it at one input. -/
def fnExactMateAliveWrong : ChangeSpec := { name := "fnExactMateAlive", fn := fun _ => fun
  | [d] => { results := [.lit (.bool false)], args := [d] }
  | _ => none }
def FnExactMateAliveWrongFalsely : Prop := fnExactMateAliveRow.holds Try.pinned (OpenSpec.ofChange fnExactMateAliveWrong)

/-- 'laws.FnExactMateWantsOk': WHATEVER THE INPUT: true; the input reads as it did. -/
def fnExactMateWantsOkSpec : ChangeSpec := { name := "fnExactMateWantsOk", fn := fun _ => fun
  | [d] => { results := [.lit (.bool true)], args := [d] }
  | _ => none }
def fnExactMateWantsOkRow : OpenClaim := { program := "ytahgeececclhdaa", sum := "d69974ebb0f17cc4dcf15c835884e31fa0fd89e315765aaee62abc2a01e7476e", func := "loop.example/wharfmate/laws.FnExactMateWantsOk", spec := "fnExactMateWantsOk", apart := false }
def FnExactMateWantsOkSaid : Prop := fnExactMateWantsOkRow.holds Try.pinned (OpenSpec.ofChange fnExactMateWantsOkSpec)

/-- ITS FALSE NEIGHBOUR: 'it returns false'. Refute it at one input. -/
def fnExactMateWantsOkWrong : ChangeSpec := { name := "fnExactMateWantsOk", fn := fun _ => fun
  | [d] => { results := [.lit (.bool false)], args := [d] }
  | _ => none }
def FnExactMateWantsOkWrongFalsely : Prop := fnExactMateWantsOkRow.holds Try.pinned (OpenSpec.ofChange fnExactMateWantsOkWrong)

/-- 'laws.FnExactMateRunsOk': WHATEVER THE INPUT: true; the input reads as it did. -/
def fnExactMateRunsOkSpec : ChangeSpec := { name := "fnExactMateRunsOk", fn := fun _ => fun
  | [d1, d2] => { results := [.lit (.bool true)], args := [d1, d2] }
  | _ => none }
def fnExactMateRunsOkRow : OpenClaim := { program := "ytahgeececclhdaa", sum := "d69974ebb0f17cc4dcf15c835884e31fa0fd89e315765aaee62abc2a01e7476e", func := "loop.example/wharfmate/laws.FnExactMateRunsOk", spec := "fnExactMateRunsOk", apart := false }
def FnExactMateRunsOkSaid : Prop := fnExactMateRunsOkRow.holds Try.pinned (OpenSpec.ofChange fnExactMateRunsOkSpec)

/-- ITS FALSE NEIGHBOUR: 'it returns false'. Refute it at one input. -/
def fnExactMateRunsOkWrong : ChangeSpec := { name := "fnExactMateRunsOk", fn := fun _ => fun
  | [d1, d2] => { results := [.lit (.bool false)], args := [d1, d2] }
  | _ => none }
def FnExactMateRunsOkWrongFalsely : Prop := fnExactMateRunsOkRow.holds Try.pinned (OpenSpec.ofChange fnExactMateRunsOkWrong)

/- THE SECOND FORM. 'bulk': how many values and letters a reading holds, each counted each time it is reached (what is shared counts as often as it is met; a slice's spare places count too). A statement '..UptoSaid' is the law's where the arguments, and the package variables that the reading takes, are together of bulk at most 1048576: NARROWER than '..Said'. Prove '..Said' where nothing that the law and all that it calls make is longer than what came in: it says more and counts as full. Else prove '..UptoSaid'. A law counts once. -/
mutual
def uptoBulk {H : Type} : DataW H → Nat
  | .lit (.string bytes) => bytes.length + 1
  | .lit _ => 1
  | .nil => 1
  | .ptr d => uptoBulk d + 1
  | .slice elems spare => uptoBulkAll elems + uptoBulkAll spare + 1
  | .agg parts => uptoBulkAll parts + 1
  | .iface _ d => uptoBulk d + 1
  | .map entries => uptoBulkEntries entries + 1
  | .held _ => 1
def uptoBulkAll {H : Type} : List (DataW H) → Nat
  | [] => 0
  | d :: r => uptoBulk d + uptoBulkAll r
def uptoBulkEntries {H : Type} : List (Lit × DataW H) → Nat
  | [] => 0
  | x :: r => uptoBulkEntry x + uptoBulkEntries r
def uptoBulkEntry {H : Type} : Lit × DataW H → Nat
  | (.string bytes, d) => bytes.length + uptoBulk d + 1
  | (_, d) => uptoBulk d + 1
 end
def uptoSmall : (H : Type) → List (DataW H) → Bool := fun _ ds => decide (uptoBulkAll ds ≤ 1048576)
def OpenSpec.upto (s : _root_.Go.ChangeSpec) : _root_.Go.OpenSpec := { _root_.Go.OpenSpec.ofChange s with cond := some uptoSmall }

/-- 'laws.FnExactConstants', WHERE WHAT IT READS IS OF BULK AT MOST 1048576: true; the input reads as it did. -/
def fnExactConstantsUptoRow : OpenClaim := { program := "ytahgeececclhdaa", sum := "d69974ebb0f17cc4dcf15c835884e31fa0fd89e315765aaee62abc2a01e7476e", func := "loop.example/wharfmate/laws.FnExactConstants", spec := "fnExactConstants", apart := false, narrowed := true }
def FnExactConstantsUptoSaid : Prop := fnExactConstantsUptoRow.holds Try.pinned (OpenSpec.upto fnExactConstantsSpec)

/-- 'laws.FnExactMateAlive', WHERE WHAT IT READS IS OF BULK AT MOST 1048576: true; the input reads as it did. -/
def fnExactMateAliveUptoRow : OpenClaim := { program := "ytahgeececclhdaa", sum := "d69974ebb0f17cc4dcf15c835884e31fa0fd89e315765aaee62abc2a01e7476e", func := "loop.example/wharfmate/laws.FnExactMateAlive", spec := "fnExactMateAlive", apart := false, narrowed := true }
def FnExactMateAliveUptoSaid : Prop := fnExactMateAliveUptoRow.holds Try.pinned (OpenSpec.upto fnExactMateAliveSpec)

/-- 'laws.FnExactMateWantsOk', WHERE WHAT IT READS IS OF BULK AT MOST 1048576: true; the input reads as it did. -/
def fnExactMateWantsOkUptoRow : OpenClaim := { program := "ytahgeececclhdaa", sum := "d69974ebb0f17cc4dcf15c835884e31fa0fd89e315765aaee62abc2a01e7476e", func := "loop.example/wharfmate/laws.FnExactMateWantsOk", spec := "fnExactMateWantsOk", apart := false, narrowed := true }
def FnExactMateWantsOkUptoSaid : Prop := fnExactMateWantsOkUptoRow.holds Try.pinned (OpenSpec.upto fnExactMateWantsOkSpec)

/-- 'laws.FnExactMateRunsOk', WHERE WHAT IT READS IS OF BULK AT MOST 1048576: true; the input reads as it did. -/
def fnExactMateRunsOkUptoRow : OpenClaim := { program := "ytahgeececclhdaa", sum := "d69974ebb0f17cc4dcf15c835884e31fa0fd89e315765aaee62abc2a01e7476e", func := "loop.example/wharfmate/laws.FnExactMateRunsOk", spec := "fnExactMateRunsOk", apart := false, narrowed := true }
def FnExactMateRunsOkUptoSaid : Prop := fnExactMateRunsOkUptoRow.holds Try.pinned (OpenSpec.upto fnExactMateRunsOkSpec)

end Rows
end Go.Proofs.Ytahgeececclhdaa
