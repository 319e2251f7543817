/-
  DERIVED. GIVEN WITH THE SEED: THE CARDS: each row of YtaikddhcplfpmaaGreatDoorRows.lean that lists a variable, with what it lists TIED to the program's text (the seventh form; the later family's looks); each row that meets fmt, with fmt's text TOLD by the authors' own Lean function (tested against real Go, not proved from fmt's source: count such statements apart). THE CARD IS WHAT COUNTS. Prove the row's statement (the work); the ties are given (YtaikddhcplfpmaaGreatDoorTie.lean); close each card by the builder's one call (the guide's Derived/Test/ToyasCard.lean, 'card_holds'). Laid BY PROGRAM, IN A SANDBOX (cutbox-door.mjs). By AI agents, Wed Nov 11 2026. No macro, syntax, notation, axiom, sorry.
-/
import Derived.Test.YtaikddhcplfpmaaGreatDoorRows
import GoSem.ClaimSeven
namespace Go.Proofs.YtaikddhcplfpmaaGreatDoor
namespace Rows

/-- THE TIED CARD OF 'laws.FnForms'. -/
def fnFormsCard : Claim7 := { stood := { row := fnFormsRow, standIns := [], harness := (true, "93a76eab9cced9b121e6d6e9c3c83efea7950ab8faa13c5a3f9213d7a2afbfd2"), looks := true }, kinds := [], alts := [], laidByText := true, laidKinds := [.data, .data, .data, .data, .sentinel, .sentinel, .pinned], laidTests := true, laidLooks := .later }
def FnFormsCardSaid : Prop := Claim7.holds Tryz.pinned (.plain (OpenSpec.ofChange fnFormsSpec)) fnFormsCard

/-- THE SECOND FORM's CARD OF 'laws.FnForms'. -/
def fnFormsUptoCard : Claim7 := { stood := { row := fnFormsUptoRow, standIns := [], harness := (true, "93a76eab9cced9b121e6d6e9c3c83efea7950ab8faa13c5a3f9213d7a2afbfd2"), looks := true }, kinds := [], alts := [], laidByText := true, laidKinds := [.data, .data, .data, .data, .sentinel, .sentinel, .pinned], laidTests := true, laidLooks := .later }
def FnFormsUptoCardSaid : Prop := Claim7.holds Tryz.pinned (.plain (OpenSpec.upto fnFormsSpec)) fnFormsUptoCard
end Rows
end Go.Proofs.YtaikddhcplfpmaaGreatDoor
