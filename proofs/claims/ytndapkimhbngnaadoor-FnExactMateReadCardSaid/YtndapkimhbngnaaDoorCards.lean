/-
  DERIVED. GIVEN WITH THE SEED: THE CARDS: each row of YtndapkimhbngnaaDoorRows.lean that lists a variable, with what it lists TIED to the program's text (the seventh form; the later family's looks); each row that meets fmt, with fmt's text TOLD by the authors' own Lean function (tested against real Go, not proved from fmt's source: count such statements apart). THE CARD IS WHAT COUNTS. Prove the row's statement (the work); the ties are given (YtndapkimhbngnaaDoorTie.lean); close each card by the builder's one call (the guide's Derived/Test/ToyasCard.lean, 'card_holds'). Laid BY PROGRAM, IN A SANDBOX (cutbox-door.mjs). By AI agents, Wed Nov 11 2026. No macro, syntax, notation, axiom, sorry.
-/
import Derived.Test.YtndapkimhbngnaaDoorRows
import GoSem.ClaimSeven
namespace Go.Proofs.YtndapkimhbngnaaDoor
namespace Rows

/-- THE TIED CARD OF 'laws.FnExactMateRead'. -/
def fnExactMateReadCard : Claim7 := { stood := { row := fnExactMateReadRow, standIns := [], harness := (true, "cdec0771c8977d98acab83ab63f3ebc77fcb2b2024da4a8a4cdef7b88ccc41b1"), looks := true }, kinds := [], alts := [], laidByText := true, laidKinds := [.data, .data, .data, .data, .sentinel, .sentinel, .pinned], laidTests := true, laidLooks := .later }
def FnExactMateReadCardSaid : Prop := Claim7.holds Tryd.pinned (.plain (OpenSpec.ofChange fnExactMateReadSpec)) fnExactMateReadCard

/-- THE SECOND FORM's CARD OF 'laws.FnExactMateRead'. -/
def fnExactMateReadUptoCard : Claim7 := { stood := { row := fnExactMateReadUptoRow, standIns := [], harness := (true, "cdec0771c8977d98acab83ab63f3ebc77fcb2b2024da4a8a4cdef7b88ccc41b1"), looks := true }, kinds := [], alts := [], laidByText := true, laidKinds := [.data, .data, .data, .data, .sentinel, .sentinel, .pinned], laidTests := true, laidLooks := .later }
def FnExactMateReadUptoCardSaid : Prop := Claim7.holds Tryd.pinned (.plain (OpenSpec.upto fnExactMateReadSpec)) fnExactMateReadUptoCard
end Rows
end Go.Proofs.YtndapkimhbngnaaDoor
