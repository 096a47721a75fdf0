/-
  DERIVED. GIVEN WITH THE SEED: THE CARDS: each row of YtkmpbmlcmglmnaaGreatDoorRows.lean that lists a variable, with what it lists TIED to the program's text (the seventh form; the later family's looks); each row that meets fmt, with fmt's text TOLD by the authors' own Lean function (tested against real Go, not proved from fmt's source: count such statements apart). THE CARD IS WHAT COUNTS. Prove the row's statement (the work); the ties are given (YtkmpbmlcmglmnaaGreatDoorTie.lean); close each card by the builder's one call (the guide's Derived/Test/ToyasCard.lean, 'card_holds'). Laid BY PROGRAM, IN A SANDBOX (cutbox-door.mjs). By AI agents, Wed Nov 11 2026. No macro, syntax, notation, axiom, sorry.
-/
import Derived.Test.YtkmpbmlcmglmnaaGreatDoorRows
import GoSem.ClaimSeven
namespace Go.Proofs.YtkmpbmlcmglmnaaGreatDoor
namespace Rows

/-- THE TIED CARD OF 'bailiwicklaw29.ShellParses'. -/
def shellParsesCard : Claim7 := { stood := { row := shellParsesRow, standIns := [], harness := (true, "c96609625aed1b4591597e33fe63defd2f4edcf1a00ae91b9ef6bd8c5e4ca2fc"), looks := true }, kinds := [], alts := [], laidByText := true, laidKinds := [.pinned, .data, .data, .data, .data, .data, .data, .data, .data, .data, .data, .data, .data, .data, .data, .data, .listed, .data, .data], laidTests := true, laidLooks := .later }
def ShellParsesCardSaid : Prop := Claim7.holds Tryz.pinned (.plain (OpenSpec.ofChange shellParsesSpec)) shellParsesCard

/-- THE SECOND FORM's CARD OF 'bailiwicklaw29.ShellParses'. -/
def shellParsesUptoCard : Claim7 := { stood := { row := shellParsesUptoRow, standIns := [], harness := (true, "c96609625aed1b4591597e33fe63defd2f4edcf1a00ae91b9ef6bd8c5e4ca2fc"), looks := true }, kinds := [], alts := [], laidByText := true, laidKinds := [.pinned, .data, .data, .data, .data, .data, .data, .data, .data, .data, .data, .data, .data, .data, .data, .data, .listed, .data, .data], laidTests := true, laidLooks := .later }
def ShellParsesUptoCardSaid : Prop := Claim7.holds Tryz.pinned (.plain (OpenSpec.upto shellParsesSpec)) shellParsesUptoCard
end Rows
end Go.Proofs.YtkmpbmlcmglmnaaGreatDoor
