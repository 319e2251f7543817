/-
  DERIVED. GIVEN WITH THE SEED: THE CARDS: each row of YthncjlbkncmekaaDoorRows.lean that lists a variable, with what it lists TIED to the program's text (the seventh form; the later family's looks); each row that meets fmt, with fmt's text TOLD by the authors' own Lean function (tested against real Go, not proved from fmt's source: count such statements apart). THE CARD IS WHAT COUNTS. Prove the row's statement (the work); the ties are given (YthncjlbkncmekaaDoorTie.lean); close each card by the builder's one call (the guide's Derived/Test/ToyasCard.lean, 'card_holds'). Laid BY PROGRAM, IN A SANDBOX (cutbox-door.mjs). By AI agents, Wed Nov 11 2026. No macro, syntax, notation, axiom, sorry.
-/
import Derived.Test.YthncjlbkncmekaaDoorRows
import GoSem.ClaimSeven
namespace Go.Proofs.YthncjlbkncmekaaDoor
namespace Rows

/-- THE TIED CARD OF 'laws.FnExactMateForm'. -/
def fnExactMateFormCard : Claim7 := { stood := { row := fnExactMateFormRow, standIns := [], harness := (true, "da3386f7dd7e11d527fc91da9ce4b14cada052db274e41879088d3f0e40e76d4"), looks := false }, kinds := [], alts := [], laidByText := true, laidKinds := [.data, .data, .data], laidTests := true, laidLooks := .later }
def FnExactMateFormCardSaid : Prop := Claim7.holds Tryd.pinned (.plain (OpenSpec.ofChange fnExactMateFormSpec)) fnExactMateFormCard

/-- THE SECOND FORM's CARD OF 'laws.FnExactMateForm'. -/
def fnExactMateFormUptoCard : Claim7 := { stood := { row := fnExactMateFormUptoRow, standIns := [], harness := (true, "da3386f7dd7e11d527fc91da9ce4b14cada052db274e41879088d3f0e40e76d4"), looks := false }, kinds := [], alts := [], laidByText := true, laidKinds := [.data, .data, .data], laidTests := true, laidLooks := .later }
def FnExactMateFormUptoCardSaid : Prop := Claim7.holds Tryd.pinned (.plain (OpenSpec.upto fnExactMateFormSpec)) fnExactMateFormUptoCard
end Rows
end Go.Proofs.YthncjlbkncmekaaDoor
