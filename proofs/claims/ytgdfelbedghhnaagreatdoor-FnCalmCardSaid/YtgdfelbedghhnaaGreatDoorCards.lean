/-
  DERIVED. GIVEN WITH THE SEED: THE CARDS: each row of YtgdfelbedghhnaaGreatDoorRows.lean that lists a variable, with what it lists TIED to the program's text (the seventh form; the later family's looks); each row that meets fmt, with fmt's text TOLD by the authors' own Lean function (tested against real Go, not proved from fmt's source: count such statements apart). THE CARD IS WHAT COUNTS. Prove the row's statement (the work); the ties are given (YtgdfelbedghhnaaGreatDoorTie.lean); close each card by the builder's one call (the guide's Derived/Test/ToyasCard.lean, 'card_holds'). Laid BY PROGRAM, IN A SANDBOX (cutbox-door.mjs). By AI agents, Wed Nov 11 2026. No macro, syntax, notation, axiom, sorry.
-/
import Derived.Test.YtgdfelbedghhnaaGreatDoorRows
import GoSem.ClaimSeven
namespace Go.Proofs.YtgdfelbedghhnaaGreatDoor
namespace Rows

/-- THE TIED CARD OF 'laws.FnCalm'. -/
def fnCalmCard : Claim7 := { stood := { row := fnCalmRow, standIns := [], harness := (true, "3fdeaa1b490e081363619a1769b543a2a29efb72b842cd95b1bc0bc8fbfccccc"), looks := true }, kinds := [], alts := [], laidByText := true, laidKinds := [.data, .data, .data, .data, .sentinel, .sentinel, .pinned], laidTests := true, laidLooks := .later }
def FnCalmCardSaid : Prop := Claim7.holds Tryz.pinned (.plain (OpenSpec.ofChange fnCalmSpec)) fnCalmCard

/-- THE SECOND FORM's CARD OF 'laws.FnCalm'. -/
def fnCalmUptoCard : Claim7 := { stood := { row := fnCalmUptoRow, standIns := [], harness := (true, "3fdeaa1b490e081363619a1769b543a2a29efb72b842cd95b1bc0bc8fbfccccc"), looks := true }, kinds := [], alts := [], laidByText := true, laidKinds := [.data, .data, .data, .data, .sentinel, .sentinel, .pinned], laidTests := true, laidLooks := .later }
def FnCalmUptoCardSaid : Prop := Claim7.holds Tryz.pinned (.plain (OpenSpec.upto fnCalmSpec)) fnCalmUptoCard
end Rows
end Go.Proofs.YtgdfelbedghhnaaGreatDoor
