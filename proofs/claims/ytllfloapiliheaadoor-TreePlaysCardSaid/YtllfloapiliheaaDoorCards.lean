/-
  DERIVED. GIVEN WITH THE SEED: THE CARDS: each row of YtllfloapiliheaaDoorRows.lean that lists a variable, with what it lists TIED to the program's text (the seventh form; the later family's looks); each row that meets fmt, with fmt's text TOLD by the authors' own Lean function (tested against real Go, not proved from fmt's source: count such statements apart). THE CARD IS WHAT COUNTS. Prove the row's statement (the work); the ties are given (YtllfloapiliheaaDoorTie.lean); close each card by the builder's one call (the guide's Derived/Test/ToyasCard.lean, 'card_holds'). Laid BY PROGRAM, IN A SANDBOX (cutbox-door.mjs). By AI agents, Wed Nov 11 2026. No macro, syntax, notation, axiom, sorry.
-/
import Derived.Test.YtllfloapiliheaaDoorRows
import GoSem.ClaimSeven
namespace Go.Proofs.YtllfloapiliheaaDoor
namespace Rows

/-- THE TIED CARD OF 'pacemakerlaw30.TreeFair'. -/
def treeFairCard : Claim7 := { stood := { row := treeFairRow, standIns := [], harness := (true, "8bfad7e38c6b9c261da97dc5dbe917b60947f140ee3a6781b3573d404d42ba66"), looks := false }, kinds := [], alts := [], laidByText := true, laidKinds := [.data], laidTests := true, laidLooks := .later }
def TreeFairCardSaid : Prop := Claim7.holds Tryd.pinned (.plain (OpenSpec.ofChange treeFairSpec)) treeFairCard

/-- THE TIED CARD OF 'pacemakerlaw30.TreeLeast'. -/
def treeLeastCard : Claim7 := { stood := { row := treeLeastRow, standIns := [], harness := (true, "8bfad7e38c6b9c261da97dc5dbe917b60947f140ee3a6781b3573d404d42ba66"), looks := false }, kinds := [], alts := [], laidByText := true, laidKinds := [.data], laidTests := true, laidLooks := .later }
def TreeLeastCardSaid : Prop := Claim7.holds Tryd.pinned (.plain (OpenSpec.ofChange treeLeastSpec)) treeLeastCard

/-- THE TIED CARD OF 'pacemakerlaw30.TreePaces'. -/
def treePacesCard : Claim7 := { stood := { row := treePacesRow, standIns := [], harness := (true, "8bfad7e38c6b9c261da97dc5dbe917b60947f140ee3a6781b3573d404d42ba66"), looks := false }, kinds := [], alts := [], laidByText := true, laidKinds := [.data], laidTests := true, laidLooks := .later }
def TreePacesCardSaid : Prop := Claim7.holds Tryd.pinned (.plain (OpenSpec.ofChange treePacesSpec)) treePacesCard

/-- THE TIED CARD OF 'pacemakerlaw30.TreeBack'. -/
def treeBackCard : Claim7 := { stood := { row := treeBackRow, standIns := [], harness := (true, "8bfad7e38c6b9c261da97dc5dbe917b60947f140ee3a6781b3573d404d42ba66"), looks := false }, kinds := [], alts := [], laidByText := true, laidKinds := [.data], laidTests := true, laidLooks := .later }
def TreeBackCardSaid : Prop := Claim7.holds Tryd.pinned (.plain (OpenSpec.ofChange treeBackSpec)) treeBackCard

/-- THE TIED CARD OF 'pacemakerlaw30.TreeKeeps'. -/
def treeKeepsCard : Claim7 := { stood := { row := treeKeepsRow, standIns := [], harness := (true, "8bfad7e38c6b9c261da97dc5dbe917b60947f140ee3a6781b3573d404d42ba66"), looks := false }, kinds := [], alts := [], laidByText := true, laidKinds := [.data], laidTests := true, laidLooks := .later }
def TreeKeepsCardSaid : Prop := Claim7.holds Tryd.pinned (.plain (OpenSpec.ofChange treeKeepsSpec)) treeKeepsCard

/-- THE TIED CARD OF 'pacemakerlaw30.TreePlays'. -/
def treePlaysCard : Claim7 := { stood := { row := treePlaysRow, standIns := [], harness := (true, "8bfad7e38c6b9c261da97dc5dbe917b60947f140ee3a6781b3573d404d42ba66"), looks := false }, kinds := [], alts := [], laidByText := true, laidKinds := [.data], laidTests := true, laidLooks := .later }
def TreePlaysCardSaid : Prop := Claim7.holds Tryd.pinned (.plain (OpenSpec.ofChange treePlaysSpec)) treePlaysCard

/-- THE TIED CARD OF 'pacemakerlaw30.TreeNobody'. -/
def treeNobodyCard : Claim7 := { stood := { row := treeNobodyRow, standIns := [], harness := (true, "8bfad7e38c6b9c261da97dc5dbe917b60947f140ee3a6781b3573d404d42ba66"), looks := false }, kinds := [], alts := [], laidByText := true, laidKinds := [.data], laidTests := true, laidLooks := .later }
def TreeNobodyCardSaid : Prop := Claim7.holds Tryd.pinned (.plain (OpenSpec.ofChange treeNobodySpec)) treeNobodyCard

/-- THE SECOND FORM's CARD OF 'pacemakerlaw30.TreeFair'. -/
def treeFairUptoCard : Claim7 := { stood := { row := treeFairUptoRow, standIns := [], harness := (true, "8bfad7e38c6b9c261da97dc5dbe917b60947f140ee3a6781b3573d404d42ba66"), looks := false }, kinds := [], alts := [], laidByText := true, laidKinds := [.data], laidTests := true, laidLooks := .later }
def TreeFairUptoCardSaid : Prop := Claim7.holds Tryd.pinned (.plain (OpenSpec.upto treeFairSpec)) treeFairUptoCard

/-- THE SECOND FORM's CARD OF 'pacemakerlaw30.TreeLeast'. -/
def treeLeastUptoCard : Claim7 := { stood := { row := treeLeastUptoRow, standIns := [], harness := (true, "8bfad7e38c6b9c261da97dc5dbe917b60947f140ee3a6781b3573d404d42ba66"), looks := false }, kinds := [], alts := [], laidByText := true, laidKinds := [.data], laidTests := true, laidLooks := .later }
def TreeLeastUptoCardSaid : Prop := Claim7.holds Tryd.pinned (.plain (OpenSpec.upto treeLeastSpec)) treeLeastUptoCard

/-- THE SECOND FORM's CARD OF 'pacemakerlaw30.TreePaces'. -/
def treePacesUptoCard : Claim7 := { stood := { row := treePacesUptoRow, standIns := [], harness := (true, "8bfad7e38c6b9c261da97dc5dbe917b60947f140ee3a6781b3573d404d42ba66"), looks := false }, kinds := [], alts := [], laidByText := true, laidKinds := [.data], laidTests := true, laidLooks := .later }
def TreePacesUptoCardSaid : Prop := Claim7.holds Tryd.pinned (.plain (OpenSpec.upto treePacesSpec)) treePacesUptoCard

/-- THE SECOND FORM's CARD OF 'pacemakerlaw30.TreeBack'. -/
def treeBackUptoCard : Claim7 := { stood := { row := treeBackUptoRow, standIns := [], harness := (true, "8bfad7e38c6b9c261da97dc5dbe917b60947f140ee3a6781b3573d404d42ba66"), looks := false }, kinds := [], alts := [], laidByText := true, laidKinds := [.data], laidTests := true, laidLooks := .later }
def TreeBackUptoCardSaid : Prop := Claim7.holds Tryd.pinned (.plain (OpenSpec.upto treeBackSpec)) treeBackUptoCard

/-- THE SECOND FORM's CARD OF 'pacemakerlaw30.TreeKeeps'. -/
def treeKeepsUptoCard : Claim7 := { stood := { row := treeKeepsUptoRow, standIns := [], harness := (true, "8bfad7e38c6b9c261da97dc5dbe917b60947f140ee3a6781b3573d404d42ba66"), looks := false }, kinds := [], alts := [], laidByText := true, laidKinds := [.data], laidTests := true, laidLooks := .later }
def TreeKeepsUptoCardSaid : Prop := Claim7.holds Tryd.pinned (.plain (OpenSpec.upto treeKeepsSpec)) treeKeepsUptoCard

/-- THE SECOND FORM's CARD OF 'pacemakerlaw30.TreePlays'. -/
def treePlaysUptoCard : Claim7 := { stood := { row := treePlaysUptoRow, standIns := [], harness := (true, "8bfad7e38c6b9c261da97dc5dbe917b60947f140ee3a6781b3573d404d42ba66"), looks := false }, kinds := [], alts := [], laidByText := true, laidKinds := [.data], laidTests := true, laidLooks := .later }
def TreePlaysUptoCardSaid : Prop := Claim7.holds Tryd.pinned (.plain (OpenSpec.upto treePlaysSpec)) treePlaysUptoCard

/-- THE SECOND FORM's CARD OF 'pacemakerlaw30.TreeNobody'. -/
def treeNobodyUptoCard : Claim7 := { stood := { row := treeNobodyUptoRow, standIns := [], harness := (true, "8bfad7e38c6b9c261da97dc5dbe917b60947f140ee3a6781b3573d404d42ba66"), looks := false }, kinds := [], alts := [], laidByText := true, laidKinds := [.data], laidTests := true, laidLooks := .later }
def TreeNobodyUptoCardSaid : Prop := Claim7.holds Tryd.pinned (.plain (OpenSpec.upto treeNobodySpec)) treeNobodyUptoCard
end Rows
end Go.Proofs.YtllfloapiliheaaDoor
