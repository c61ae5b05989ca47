/-
  DERIVED. GIVEN WITH THE SEED: THE CARDS: each row of YtjbaibnmbeabnaaGreatDoorRows.lean that lists a variable, with what it lists TIED to the program's text (the seventh form; the later family's looks); each row that meets fmt, with fmt's text TOLD by the authors' own Lean function (tested against real Go, not proved from fmt's source: count such statements apart). THE CARD IS WHAT COUNTS. Prove the row's statement (the work); the ties are given (YtjbaibnmbeabnaaGreatDoorTie.lean); close each card by the builder's one call (the guide's Derived/Test/ToyasCard.lean, 'card_holds'). Laid BY PROGRAM, IN A SANDBOX (cutbox-door.mjs). By AI agents, Wed Nov 11 2026. No macro, syntax, notation, axiom, sorry.
-/
import Derived.Test.YtjbaibnmbeabnaaGreatDoorRows
import GoSem.ClaimSeven
namespace Go.Proofs.YtjbaibnmbeabnaaGreatDoor
namespace Rows

/-- THE TIED CARD OF 'pacemakerlaw11.CalPlays'. -/
def calPlaysCard : Claim7 := { stood := { row := calPlaysRow, standIns := [], harness := (true, "30453e5b895d872f33949576c3998ee0b0cb5a405131cbe6d7f775009a8dee21"), looks := false }, kinds := [], alts := [], laidByText := true, laidKinds := [.data], laidTests := true, laidLooks := .later }
def CalPlaysCardSaid : Prop := Claim7.holds Tryz.pinned (.plain (OpenSpec.ofChange calPlaysSpec)) calPlaysCard

/-- THE SECOND FORM's CARD OF 'pacemakerlaw11.CalPlays'. -/
def calPlaysUptoCard : Claim7 := { stood := { row := calPlaysUptoRow, standIns := [], harness := (true, "30453e5b895d872f33949576c3998ee0b0cb5a405131cbe6d7f775009a8dee21"), looks := false }, kinds := [], alts := [], laidByText := true, laidKinds := [.data], laidTests := true, laidLooks := .later }
def CalPlaysUptoCardSaid : Prop := Claim7.holds Tryz.pinned (.plain (OpenSpec.upto calPlaysSpec)) calPlaysUptoCard
end Rows
end Go.Proofs.YtjbaibnmbeabnaaGreatDoor
