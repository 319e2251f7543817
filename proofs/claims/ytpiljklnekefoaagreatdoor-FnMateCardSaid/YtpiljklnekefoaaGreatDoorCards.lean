/-
  DERIVED. GIVEN WITH THE SEED: THE CARDS: each row of YtpiljklnekefoaaGreatDoorRows.lean that lists a variable, with what it lists TIED to the program's text (the seventh form; the later family's looks); each row that meets fmt, with fmt's text TOLD by the authors' own Lean function (tested against real Go, not proved from fmt's source: count such statements apart). THE CARD IS WHAT COUNTS. Prove the row's statement (the work); the ties are given (YtpiljklnekefoaaGreatDoorTie.lean); close each card by the builder's one call (the guide's Derived/Test/ToyasCard.lean, 'card_holds'). Laid BY PROGRAM, IN A SANDBOX (cutbox-door.mjs). By AI agents, Wed Nov 11 2026. No macro, syntax, notation, axiom, sorry.
-/
import Derived.Test.YtpiljklnekefoaaGreatDoorRows
import GoSem.ClaimSeven
namespace Go.Proofs.YtpiljklnekefoaaGreatDoor
namespace Rows

/-- THE TIED CARD OF 'laws.FnMate'. -/
def fnMateCard : Claim7 := { stood := { row := fnMateRow, standIns := [], harness := (true, "9ae2cc0d4a40f5319444b6946eac6010ac921bc381427f3dfc8f04e19a043c1c"), looks := false }, kinds := [], alts := [], laidByText := true, laidKinds := [.data, .data, .data], laidTests := true, laidLooks := .later }
def FnMateCardSaid : Prop := Claim7.holds Tryz.pinned (.plain (OpenSpec.ofChange fnMateSpec)) fnMateCard

/-- THE SECOND FORM's CARD OF 'laws.FnMate'. -/
def fnMateUptoCard : Claim7 := { stood := { row := fnMateUptoRow, standIns := [], harness := (true, "9ae2cc0d4a40f5319444b6946eac6010ac921bc381427f3dfc8f04e19a043c1c"), looks := false }, kinds := [], alts := [], laidByText := true, laidKinds := [.data, .data, .data], laidTests := true, laidLooks := .later }
def FnMateUptoCardSaid : Prop := Claim7.holds Tryz.pinned (.plain (OpenSpec.upto fnMateSpec)) fnMateUptoCard
end Rows
end Go.Proofs.YtpiljklnekefoaaGreatDoor
