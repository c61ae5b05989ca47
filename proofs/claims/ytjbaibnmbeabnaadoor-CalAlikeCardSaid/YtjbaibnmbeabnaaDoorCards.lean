/-
  DERIVED. GIVEN WITH THE SEED: THE CARDS: each row of YtjbaibnmbeabnaaDoorRows.lean that lists a variable, with what it lists TIED to the program's text (the seventh form; the later family's looks); each row that meets fmt, with fmt's text TOLD by the authors' own Lean function (tested against real Go, not proved from fmt's source: count such statements apart). THE CARD IS WHAT COUNTS. Prove the row's statement (the work); the ties are given (YtjbaibnmbeabnaaDoorTie.lean); close each card by the builder's one call (the guide's Derived/Test/ToyasCard.lean, 'card_holds'). Laid BY PROGRAM, IN A SANDBOX (cutbox-door.mjs). By AI agents, Wed Nov 11 2026. No macro, syntax, notation, axiom, sorry.
-/
import Derived.Test.YtjbaibnmbeabnaaDoorRows
import GoSem.ClaimSeven
namespace Go.Proofs.YtjbaibnmbeabnaaDoor
namespace Rows

/-- THE TIED CARD OF 'pacemakerlaw11.CalAlike'. -/
def calAlikeCard : Claim7 := { stood := { row := calAlikeRow, standIns := [], harness := (true, "f313e6a52fa97009ceb44623411e8222287d0b1458b121ee2defedfce7dc5191"), looks := false }, kinds := [], alts := [], laidByText := true, laidKinds := [.data], laidTests := true, laidLooks := .later }
def CalAlikeCardSaid : Prop := Claim7.holds Tryd.pinned (.plain (OpenSpec.ofChange calAlikeSpec)) calAlikeCard

/-- THE TIED CARD OF 'pacemakerlaw11.CalLooks'. -/
def calLooksCard : Claim7 := { stood := { row := calLooksRow, standIns := [], harness := (true, "f313e6a52fa97009ceb44623411e8222287d0b1458b121ee2defedfce7dc5191"), looks := false }, kinds := [], alts := [], laidByText := true, laidKinds := [.data], laidTests := true, laidLooks := .later }
def CalLooksCardSaid : Prop := Claim7.holds Tryd.pinned (.plain (OpenSpec.ofChange calLooksSpec)) calLooksCard

/-- THE TIED CARD OF 'pacemakerlaw28.WheelSteps'. -/
def wheelStepsCard : Claim7 := { stood := { row := wheelStepsRow, standIns := [], harness := (true, "f313e6a52fa97009ceb44623411e8222287d0b1458b121ee2defedfce7dc5191"), looks := false }, kinds := [], alts := [], laidByText := true, laidKinds := [.data], laidTests := true, laidLooks := .later }
def WheelStepsCardSaid : Prop := Claim7.holds Tryd.pinned (.plain (OpenSpec.ofChange wheelStepsSpec)) wheelStepsCard

/-- THE TIED CARD OF 'pacemakerlaw28.WheelPlays'. -/
def wheelPlaysCard : Claim7 := { stood := { row := wheelPlaysRow, standIns := [], harness := (true, "f313e6a52fa97009ceb44623411e8222287d0b1458b121ee2defedfce7dc5191"), looks := false }, kinds := [], alts := [], laidByText := true, laidKinds := [.data], laidTests := true, laidLooks := .later }
def WheelPlaysCardSaid : Prop := Claim7.holds Tryd.pinned (.plain (OpenSpec.ofChange wheelPlaysSpec)) wheelPlaysCard

/-- THE TIED CARD OF 'pacemakerlaw28.WheelNobody'. -/
def wheelNobodyCard : Claim7 := { stood := { row := wheelNobodyRow, standIns := [], harness := (true, "f313e6a52fa97009ceb44623411e8222287d0b1458b121ee2defedfce7dc5191"), looks := false }, kinds := [], alts := [], laidByText := true, laidKinds := [.data], laidTests := true, laidLooks := .later }
def WheelNobodyCardSaid : Prop := Claim7.holds Tryd.pinned (.plain (OpenSpec.ofChange wheelNobodySpec)) wheelNobodyCard

/-- THE TIED CARD OF 'pacemakerlaw11.CalNobody'. -/
def calNobodyCard : Claim7 := { stood := { row := calNobodyRow, standIns := [], harness := (true, "f313e6a52fa97009ceb44623411e8222287d0b1458b121ee2defedfce7dc5191"), looks := false }, kinds := [], alts := [], laidByText := true, laidKinds := [.data], laidTests := true, laidLooks := .later }
def CalNobodyCardSaid : Prop := Claim7.holds Tryd.pinned (.plain (OpenSpec.ofChange calNobodySpec)) calNobodyCard

/-- THE SECOND FORM's CARD OF 'pacemakerlaw11.CalAlike'. -/
def calAlikeUptoCard : Claim7 := { stood := { row := calAlikeUptoRow, standIns := [], harness := (true, "f313e6a52fa97009ceb44623411e8222287d0b1458b121ee2defedfce7dc5191"), looks := false }, kinds := [], alts := [], laidByText := true, laidKinds := [.data], laidTests := true, laidLooks := .later }
def CalAlikeUptoCardSaid : Prop := Claim7.holds Tryd.pinned (.plain (OpenSpec.upto calAlikeSpec)) calAlikeUptoCard

/-- THE SECOND FORM's CARD OF 'pacemakerlaw11.CalLooks'. -/
def calLooksUptoCard : Claim7 := { stood := { row := calLooksUptoRow, standIns := [], harness := (true, "f313e6a52fa97009ceb44623411e8222287d0b1458b121ee2defedfce7dc5191"), looks := false }, kinds := [], alts := [], laidByText := true, laidKinds := [.data], laidTests := true, laidLooks := .later }
def CalLooksUptoCardSaid : Prop := Claim7.holds Tryd.pinned (.plain (OpenSpec.upto calLooksSpec)) calLooksUptoCard

/-- THE SECOND FORM's CARD OF 'pacemakerlaw28.WheelSteps'. -/
def wheelStepsUptoCard : Claim7 := { stood := { row := wheelStepsUptoRow, standIns := [], harness := (true, "f313e6a52fa97009ceb44623411e8222287d0b1458b121ee2defedfce7dc5191"), looks := false }, kinds := [], alts := [], laidByText := true, laidKinds := [.data], laidTests := true, laidLooks := .later }
def WheelStepsUptoCardSaid : Prop := Claim7.holds Tryd.pinned (.plain (OpenSpec.upto wheelStepsSpec)) wheelStepsUptoCard

/-- THE SECOND FORM's CARD OF 'pacemakerlaw28.WheelPlays'. -/
def wheelPlaysUptoCard : Claim7 := { stood := { row := wheelPlaysUptoRow, standIns := [], harness := (true, "f313e6a52fa97009ceb44623411e8222287d0b1458b121ee2defedfce7dc5191"), looks := false }, kinds := [], alts := [], laidByText := true, laidKinds := [.data], laidTests := true, laidLooks := .later }
def WheelPlaysUptoCardSaid : Prop := Claim7.holds Tryd.pinned (.plain (OpenSpec.upto wheelPlaysSpec)) wheelPlaysUptoCard

/-- THE SECOND FORM's CARD OF 'pacemakerlaw28.WheelNobody'. -/
def wheelNobodyUptoCard : Claim7 := { stood := { row := wheelNobodyUptoRow, standIns := [], harness := (true, "f313e6a52fa97009ceb44623411e8222287d0b1458b121ee2defedfce7dc5191"), looks := false }, kinds := [], alts := [], laidByText := true, laidKinds := [.data], laidTests := true, laidLooks := .later }
def WheelNobodyUptoCardSaid : Prop := Claim7.holds Tryd.pinned (.plain (OpenSpec.upto wheelNobodySpec)) wheelNobodyUptoCard

/-- THE SECOND FORM's CARD OF 'pacemakerlaw11.CalNobody'. -/
def calNobodyUptoCard : Claim7 := { stood := { row := calNobodyUptoRow, standIns := [], harness := (true, "f313e6a52fa97009ceb44623411e8222287d0b1458b121ee2defedfce7dc5191"), looks := false }, kinds := [], alts := [], laidByText := true, laidKinds := [.data], laidTests := true, laidLooks := .later }
def CalNobodyUptoCardSaid : Prop := Claim7.holds Tryd.pinned (.plain (OpenSpec.upto calNobodySpec)) calNobodyUptoCard
end Rows
end Go.Proofs.YtjbaibnmbeabnaaDoor
