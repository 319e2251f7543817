/-
  DERIVED. GIVEN WITH THE SEED: THE CARDS: each row of YtfemiipgkhekiaaGreatDoorRows.lean that lists a variable, with what it lists TIED to the program's text (the seventh form; the later family's looks); each row that meets fmt, with fmt's text TOLD by the authors' own Lean function (tested against real Go, not proved from fmt's source: count such statements apart). THE CARD IS WHAT COUNTS. Prove the row's statement (the work); the ties are given (YtfemiipgkhekiaaGreatDoorTie.lean); close each card by the builder's one call (the guide's Derived/Test/ToyasCard.lean, 'card_holds'). Laid BY PROGRAM, IN A SANDBOX (cutbox-door.mjs). By AI agents, Wed Nov 11 2026. No macro, syntax, notation, axiom, sorry.
-/
import Derived.Test.YtfemiipgkhekiaaGreatDoorRows
import GoSem.ClaimSeven
namespace Go.Proofs.YtfemiipgkhekiaaGreatDoor
namespace Rows

/-- THE TIED CARD OF 'laws.FnMove'. -/
def fnMoveCard : Claim7 := { stood := { row := fnMoveRow, standIns := [], harness := (true, "96c78f0d173214b623623fb00e93c04e12149b1bf4e2c3ace126243749aef1f3"), looks := true }, kinds := [], alts := [], laidByText := true, laidKinds := [.data, .data, .data, .data, .sentinel, .sentinel, .pinned], laidTests := true, laidLooks := .later }
def FnMoveCardSaid : Prop := Claim7.holds Tryz.pinned (.plain (OpenSpec.ofChange fnMoveSpec)) fnMoveCard

/-- THE SECOND FORM's CARD OF 'laws.FnMove'. -/
def fnMoveUptoCard : Claim7 := { stood := { row := fnMoveUptoRow, standIns := [], harness := (true, "96c78f0d173214b623623fb00e93c04e12149b1bf4e2c3ace126243749aef1f3"), looks := true }, kinds := [], alts := [], laidByText := true, laidKinds := [.data, .data, .data, .data, .sentinel, .sentinel, .pinned], laidTests := true, laidLooks := .later }
def FnMoveUptoCardSaid : Prop := Claim7.holds Tryz.pinned (.plain (OpenSpec.upto fnMoveSpec)) fnMoveUptoCard
end Rows
end Go.Proofs.YtfemiipgkhekiaaGreatDoor
