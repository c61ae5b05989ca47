/-
  DERIVED. GIVEN WITH THE SEED: THE CARDS: each row of YtpgpjjkeginbbaaGreatDoorRows.lean that lists a variable, with what it lists TIED to the program's text (the seventh form; the later family's looks); each row that meets fmt, with fmt's text TOLD by the authors' own Lean function (tested against real Go, not proved from fmt's source: count such statements apart). THE CARD IS WHAT COUNTS. Prove the row's statement (the work); the ties are given (YtpgpjjkeginbbaaGreatDoorTie.lean); close each card by the builder's one call (the guide's Derived/Test/ToyasCard.lean, 'card_holds'). Laid BY PROGRAM, IN A SANDBOX (cutbox-door.mjs). By AI agents, Wed Nov 11 2026. No macro, syntax, notation, axiom, sorry.
-/
import Derived.Test.YtpgpjjkeginbbaaGreatDoorRows
import GoSem.ClaimSeven
namespace Go.Proofs.YtpgpjjkeginbbaaGreatDoor
namespace Rows

/-- THE TIED CARD OF 'pacemakertop.TopBranches'. -/
def topBranchesCard : Claim7 := { stood := { row := topBranchesRow, standIns := [], harness := (true, "4279caf8825a188be609f3ecb3a4f727fd7d87e9f91463f06809cd2cf3431159"), looks := false }, kinds := [], alts := [], laidByText := true, laidKinds := [.data], laidTests := true, laidLooks := .later }
def TopBranchesCardSaid : Prop := Claim7.holds Tryz.pinned (.plain (OpenSpec.ofChange topBranchesSpec)) topBranchesCard

/-- THE TIED CARD OF 'pacemakertop.TopAhead'. -/
def topAheadCard : Claim7 := { stood := { row := topAheadRow, standIns := [], harness := (true, "4279caf8825a188be609f3ecb3a4f727fd7d87e9f91463f06809cd2cf3431159"), looks := false }, kinds := [], alts := [], laidByText := true, laidKinds := [.data], laidTests := true, laidLooks := .later }
def TopAheadCardSaid : Prop := Claim7.holds Tryz.pinned (.plain (OpenSpec.ofChange topAheadSpec)) topAheadCard

/-- THE SECOND FORM's CARD OF 'pacemakertop.TopBranches'. -/
def topBranchesUptoCard : Claim7 := { stood := { row := topBranchesUptoRow, standIns := [], harness := (true, "4279caf8825a188be609f3ecb3a4f727fd7d87e9f91463f06809cd2cf3431159"), looks := false }, kinds := [], alts := [], laidByText := true, laidKinds := [.data], laidTests := true, laidLooks := .later }
def TopBranchesUptoCardSaid : Prop := Claim7.holds Tryz.pinned (.plain (OpenSpec.upto topBranchesSpec)) topBranchesUptoCard

/-- THE SECOND FORM's CARD OF 'pacemakertop.TopAhead'. -/
def topAheadUptoCard : Claim7 := { stood := { row := topAheadUptoRow, standIns := [], harness := (true, "4279caf8825a188be609f3ecb3a4f727fd7d87e9f91463f06809cd2cf3431159"), looks := false }, kinds := [], alts := [], laidByText := true, laidKinds := [.data], laidTests := true, laidLooks := .later }
def TopAheadUptoCardSaid : Prop := Claim7.holds Tryz.pinned (.plain (OpenSpec.upto topAheadSpec)) topAheadUptoCard
end Rows
end Go.Proofs.YtpgpjjkeginbbaaGreatDoor
