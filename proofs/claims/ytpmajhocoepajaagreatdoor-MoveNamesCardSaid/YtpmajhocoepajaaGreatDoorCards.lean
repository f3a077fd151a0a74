/-
  DERIVED. GIVEN WITH THE SEED: THE CARDS: each row of YtpmajhocoepajaaGreatDoorRows.lean that lists a variable, with what it lists TIED to the program's text (the seventh form; the later family's looks); each row that meets fmt, with fmt's text TOLD by the authors' own Lean function (tested against real Go, not proved from fmt's source: count such statements apart). THE CARD IS WHAT COUNTS. Prove the row's statement (the work); the ties are given (YtpmajhocoepajaaGreatDoorTie.lean); close each card by the builder's one call (the guide's Derived/Test/ToyasCard.lean, 'card_holds'). Laid BY PROGRAM, IN A SANDBOX (cutbox-door.mjs). By AI agents, Wed Nov 11 2026. No macro, syntax, notation, axiom, sorry.
-/
import Derived.Test.YtpmajhocoepajaaGreatDoorRows
import GoSem.ClaimSeven
namespace Go.Proofs.YtpmajhocoepajaaGreatDoor
namespace Rows

/-- THE TIED CARD OF 'tollgatelaw21.MoveNames'. -/
def moveNamesCard : Claim7 := { stood := { row := moveNamesRow, standIns := [], harness := (true, "f9e677a9254d2ba6871b92d0ff5ad1a6b482c3080b5e700f727e76378b2c7d4c"), looks := true }, kinds := [], alts := [], laidByText := true, laidKinds := [.data, .data, .data, .data, .sentinel, .sentinel, .pinned], laidTests := true, laidLooks := .later }
def MoveNamesCardSaid : Prop := Claim7.holds Tryz.pinned (.plain (OpenSpec.ofChange moveNamesSpec)) moveNamesCard

/-- THE SECOND FORM's CARD OF 'tollgatelaw21.MoveNames'. -/
def moveNamesUptoCard : Claim7 := { stood := { row := moveNamesUptoRow, standIns := [], harness := (true, "f9e677a9254d2ba6871b92d0ff5ad1a6b482c3080b5e700f727e76378b2c7d4c"), looks := true }, kinds := [], alts := [], laidByText := true, laidKinds := [.data, .data, .data, .data, .sentinel, .sentinel, .pinned], laidTests := true, laidLooks := .later }
def MoveNamesUptoCardSaid : Prop := Claim7.holds Tryz.pinned (.plain (OpenSpec.upto moveNamesSpec)) moveNamesUptoCard
end Rows
end Go.Proofs.YtpmajhocoepajaaGreatDoor
