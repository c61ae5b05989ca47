/-
  No cell of these rows narrows 'for every input' (looked for: loops, veiled, ifaces, maps, wideKeys, modest, calm, conditions, laid).
  DERIVED. THE GIVEN ROWS OF THIS SEAT. 6 by the template 'for every input the law returns true; each argument reads behind the call as it read before'; 0 by the template 'total and deterministic' (their statements: YtdddfmdcjjbegaaGreatTotals.lean).
  GIVEN WITH THE SEED: the statements are not yours to turn. If you find one false, say at which input.
  Laid BY PROGRAM, IN A SANDBOX (cutbox-rows.mjs): the forced cells as the released guide's own fill.sh prints them over the translation bbe0325327f6075f… (all of the seat's roots in one cut). By AI agents, Wed Nov 11 2026. No macro, syntax, notation, axiom, sorry.
-/
import Derived.Test.YtdddfmdcjjbegaaGreatChecked
import GoSem.Claim
import GoSem.ClaimJoined
import GoSem.ClaimMapViews
import Derived.JoinedTies
import Derived.KernelRfl
namespace Go.Proofs.YtdddfmdcjjbegaaGreat
/- THE CELL 'sum', in the pinned program and in every row, IS THE sha256 OF THE DUMP (.gsa) THAT YtdddfmdcjjbegaaGreatProg.lean LOADS. Nothing in Lean hashes anything: it is a label: what it is worth is what the hold of that sum in a sandbox is worth. -/
noncomputable def Tryz.pinned : Pinned := { name := "ytdddfmdcjjbegaagreat", sum := "bbe0325327f6075fe1c0482edb942c0f9d7eb5fcc0430cd7e591bdeb96a2c8c9", checked := Tryz.checked }
namespace Rows
def none {H : Type} : Left H := { results := [], args := [] }

/-- 'pacemakerlaw43.EgressGates': WHATEVER THE INPUT: true; the input reads as it did. -/
def egressGatesSpec : ChangeSpec := { name := "egressGates", fn := fun _ => fun
  | [d1, d2] => { results := [.lit (.bool true)], args := [d1, d2] }
  | _ => none }
def egressGatesRow : OpenClaim := { program := "ytdddfmdcjjbegaagreat", sum := "bbe0325327f6075fe1c0482edb942c0f9d7eb5fcc0430cd7e591bdeb96a2c8c9", func := "pacemaker/pacemakerlaw43.EgressGates", spec := "egressGates", inPlace := ["math/bits.Add64"], unfollowed := true, recurses := true, named := ["math/bits.divideError", "math/bits.overflowError"], apart := false }
def EgressGatesSaid : Prop := egressGatesRow.holds Tryz.pinned (OpenSpec.ofChange egressGatesSpec)

/-- ITS FALSE NEIGHBOUR: 'it returns false'. Refute it at one input. -/
def egressGatesWrong : ChangeSpec := { name := "egressGates", fn := fun _ => fun
  | [d1, d2] => { results := [.lit (.bool false)], args := [d1, d2] }
  | _ => none }
def EgressGatesWrongFalsely : Prop := egressGatesRow.holds Tryz.pinned (OpenSpec.ofChange egressGatesWrong)

/-- 'pacemakerlaw43.EgressCredits': WHATEVER THE INPUT: true; the input reads as it did. -/
def egressCreditsSpec : ChangeSpec := { name := "egressCredits", fn := fun _ => fun
  | [d1, d2] => { results := [.lit (.bool true)], args := [d1, d2] }
  | _ => none }
def egressCreditsRow : OpenClaim := { program := "ytdddfmdcjjbegaagreat", sum := "bbe0325327f6075fe1c0482edb942c0f9d7eb5fcc0430cd7e591bdeb96a2c8c9", func := "pacemaker/pacemakerlaw43.EgressCredits", spec := "egressCredits", inPlace := ["math/bits.Add64"], unfollowed := true, recurses := true, named := ["math/bits.divideError", "math/bits.overflowError"], apart := false }
def EgressCreditsSaid : Prop := egressCreditsRow.holds Tryz.pinned (OpenSpec.ofChange egressCreditsSpec)

/-- ITS FALSE NEIGHBOUR: 'it returns false'. Refute it at one input. -/
def egressCreditsWrong : ChangeSpec := { name := "egressCredits", fn := fun _ => fun
  | [d1, d2] => { results := [.lit (.bool false)], args := [d1, d2] }
  | _ => none }
def EgressCreditsWrongFalsely : Prop := egressCreditsRow.holds Tryz.pinned (OpenSpec.ofChange egressCreditsWrong)

/-- 'pacemakerlaw43.EgressKeeps': WHATEVER THE INPUT: true; the input reads as it did. -/
def egressKeepsSpec : ChangeSpec := { name := "egressKeeps", fn := fun _ => fun
  | [d1, d2] => { results := [.lit (.bool true)], args := [d1, d2] }
  | _ => none }
def egressKeepsRow : OpenClaim := { program := "ytdddfmdcjjbegaagreat", sum := "bbe0325327f6075fe1c0482edb942c0f9d7eb5fcc0430cd7e591bdeb96a2c8c9", func := "pacemaker/pacemakerlaw43.EgressKeeps", spec := "egressKeeps", inPlace := ["math/bits.Add64"], unfollowed := true, recurses := true, named := ["math/bits.divideError", "math/bits.overflowError"], apart := false }
def EgressKeepsSaid : Prop := egressKeepsRow.holds Tryz.pinned (OpenSpec.ofChange egressKeepsSpec)

/-- ITS FALSE NEIGHBOUR: 'it returns false'. Refute it at one input. -/
def egressKeepsWrong : ChangeSpec := { name := "egressKeeps", fn := fun _ => fun
  | [d1, d2] => { results := [.lit (.bool false)], args := [d1, d2] }
  | _ => none }
def EgressKeepsWrongFalsely : Prop := egressKeepsRow.holds Tryz.pinned (OpenSpec.ofChange egressKeepsWrong)

/-- 'pacemakerlaw43.EgressFirst': WHATEVER THE INPUT: true; the input reads as it did. -/
def egressFirstSpec : ChangeSpec := { name := "egressFirst", fn := fun _ => fun
  | [d1, d2] => { results := [.lit (.bool true)], args := [d1, d2] }
  | _ => none }
def egressFirstRow : OpenClaim := { program := "ytdddfmdcjjbegaagreat", sum := "bbe0325327f6075fe1c0482edb942c0f9d7eb5fcc0430cd7e591bdeb96a2c8c9", func := "pacemaker/pacemakerlaw43.EgressFirst", spec := "egressFirst", inPlace := ["math/bits.Add64"], unfollowed := true, recurses := true, named := ["math/bits.divideError", "math/bits.overflowError"], apart := false }
def EgressFirstSaid : Prop := egressFirstRow.holds Tryz.pinned (OpenSpec.ofChange egressFirstSpec)

/-- ITS FALSE NEIGHBOUR: 'it returns false'. Refute it at one input. -/
def egressFirstWrong : ChangeSpec := { name := "egressFirst", fn := fun _ => fun
  | [d1, d2] => { results := [.lit (.bool false)], args := [d1, d2] }
  | _ => none }
def EgressFirstWrongFalsely : Prop := egressFirstRow.holds Tryz.pinned (OpenSpec.ofChange egressFirstWrong)

/-- 'pacemakerlaw43.EgressPlays': WHATEVER THE INPUT: true; the input reads as it did. -/
def egressPlaysSpec : ChangeSpec := { name := "egressPlays", fn := fun _ => fun
  | [d1, d2] => { results := [.lit (.bool true)], args := [d1, d2] }
  | _ => none }
def egressPlaysRow : OpenClaim := { program := "ytdddfmdcjjbegaagreat", sum := "bbe0325327f6075fe1c0482edb942c0f9d7eb5fcc0430cd7e591bdeb96a2c8c9", func := "pacemaker/pacemakerlaw43.EgressPlays", spec := "egressPlays", inPlace := ["math/bits.Add64"], unfollowed := true, recurses := true, named := ["math/bits.divideError", "math/bits.overflowError"], apart := false }
def EgressPlaysSaid : Prop := egressPlaysRow.holds Tryz.pinned (OpenSpec.ofChange egressPlaysSpec)

/-- ITS FALSE NEIGHBOUR: 'it returns false'. Refute it at one input. -/
def egressPlaysWrong : ChangeSpec := { name := "egressPlays", fn := fun _ => fun
  | [d1, d2] => { results := [.lit (.bool false)], args := [d1, d2] }
  | _ => none }
def EgressPlaysWrongFalsely : Prop := egressPlaysRow.holds Tryz.pinned (OpenSpec.ofChange egressPlaysWrong)

/-- 'pacemakerlaw43.EgressNobody': WHATEVER THE INPUT: true; the input reads as it did. -/
def egressNobodySpec : ChangeSpec := { name := "egressNobody", fn := fun _ => fun
  | [d1, d2, d3] => { results := [.lit (.bool true)], args := [d1, d2, d3] }
  | _ => none }
def egressNobodyRow : OpenClaim := { program := "ytdddfmdcjjbegaagreat", sum := "bbe0325327f6075fe1c0482edb942c0f9d7eb5fcc0430cd7e591bdeb96a2c8c9", func := "pacemaker/pacemakerlaw43.EgressNobody", spec := "egressNobody", inPlace := ["math/bits.Add64"], unfollowed := true, recurses := true, named := ["math/bits.divideError", "math/bits.overflowError"], apart := false }
def EgressNobodySaid : Prop := egressNobodyRow.holds Tryz.pinned (OpenSpec.ofChange egressNobodySpec)

/-- ITS FALSE NEIGHBOUR: 'it returns false'. Refute it at one input. -/
def egressNobodyWrong : ChangeSpec := { name := "egressNobody", fn := fun _ => fun
  | [d1, d2, d3] => { results := [.lit (.bool false)], args := [d1, d2, d3] }
  | _ => none }
def EgressNobodyWrongFalsely : Prop := egressNobodyRow.holds Tryz.pinned (OpenSpec.ofChange egressNobodyWrong)

/- THE SECOND FORM. 'bulk': how many values and letters a reading holds, each counted each time it is reached (what is shared counts as often as it is met; a slice's spare places count too). A statement '..UptoSaid' is the law's where the arguments, and the package variables that the reading takes, are together of bulk at most 1048576: NARROWER than '..Said'. Prove '..Said' where nothing that the law and all that it calls make is longer than what came in: it says more and counts as full. Else prove '..UptoSaid'. A law counts once. -/
mutual
def uptoBulk {H : Type} : DataW H → Nat
  | .lit (.string bytes) => bytes.length + 1
  | .lit _ => 1
  | .nil => 1
  | .ptr d => uptoBulk d + 1
  | .slice elems spare => uptoBulkAll elems + uptoBulkAll spare + 1
  | .agg parts => uptoBulkAll parts + 1
  | .iface _ d => uptoBulk d + 1
  | .map entries => uptoBulkEntries entries + 1
  | .held _ => 1
def uptoBulkAll {H : Type} : List (DataW H) → Nat
  | [] => 0
  | d :: r => uptoBulk d + uptoBulkAll r
def uptoBulkEntries {H : Type} : List (Lit × DataW H) → Nat
  | [] => 0
  | x :: r => uptoBulkEntry x + uptoBulkEntries r
def uptoBulkEntry {H : Type} : Lit × DataW H → Nat
  | (.string bytes, d) => bytes.length + uptoBulk d + 1
  | (_, d) => uptoBulk d + 1
 end
def uptoSmall : (H : Type) → List (DataW H) → Bool := fun _ ds => decide (uptoBulkAll ds ≤ 1048576)
def OpenSpec.upto (s : _root_.Go.ChangeSpec) : _root_.Go.OpenSpec := { _root_.Go.OpenSpec.ofChange s with cond := some uptoSmall }

/-- 'pacemakerlaw43.EgressGates', WHERE WHAT IT READS IS OF BULK AT MOST 1048576: true; the input reads as it did. -/
def egressGatesUptoRow : OpenClaim := { program := "ytdddfmdcjjbegaagreat", sum := "bbe0325327f6075fe1c0482edb942c0f9d7eb5fcc0430cd7e591bdeb96a2c8c9", func := "pacemaker/pacemakerlaw43.EgressGates", spec := "egressGates", inPlace := ["math/bits.Add64"], unfollowed := true, recurses := true, named := ["math/bits.divideError", "math/bits.overflowError"], apart := false, narrowed := true }
def EgressGatesUptoSaid : Prop := egressGatesUptoRow.holds Tryz.pinned (OpenSpec.upto egressGatesSpec)

/-- 'pacemakerlaw43.EgressCredits', WHERE WHAT IT READS IS OF BULK AT MOST 1048576: true; the input reads as it did. -/
def egressCreditsUptoRow : OpenClaim := { program := "ytdddfmdcjjbegaagreat", sum := "bbe0325327f6075fe1c0482edb942c0f9d7eb5fcc0430cd7e591bdeb96a2c8c9", func := "pacemaker/pacemakerlaw43.EgressCredits", spec := "egressCredits", inPlace := ["math/bits.Add64"], unfollowed := true, recurses := true, named := ["math/bits.divideError", "math/bits.overflowError"], apart := false, narrowed := true }
def EgressCreditsUptoSaid : Prop := egressCreditsUptoRow.holds Tryz.pinned (OpenSpec.upto egressCreditsSpec)

/-- 'pacemakerlaw43.EgressKeeps', WHERE WHAT IT READS IS OF BULK AT MOST 1048576: true; the input reads as it did. -/
def egressKeepsUptoRow : OpenClaim := { program := "ytdddfmdcjjbegaagreat", sum := "bbe0325327f6075fe1c0482edb942c0f9d7eb5fcc0430cd7e591bdeb96a2c8c9", func := "pacemaker/pacemakerlaw43.EgressKeeps", spec := "egressKeeps", inPlace := ["math/bits.Add64"], unfollowed := true, recurses := true, named := ["math/bits.divideError", "math/bits.overflowError"], apart := false, narrowed := true }
def EgressKeepsUptoSaid : Prop := egressKeepsUptoRow.holds Tryz.pinned (OpenSpec.upto egressKeepsSpec)

/-- 'pacemakerlaw43.EgressFirst', WHERE WHAT IT READS IS OF BULK AT MOST 1048576: true; the input reads as it did. -/
def egressFirstUptoRow : OpenClaim := { program := "ytdddfmdcjjbegaagreat", sum := "bbe0325327f6075fe1c0482edb942c0f9d7eb5fcc0430cd7e591bdeb96a2c8c9", func := "pacemaker/pacemakerlaw43.EgressFirst", spec := "egressFirst", inPlace := ["math/bits.Add64"], unfollowed := true, recurses := true, named := ["math/bits.divideError", "math/bits.overflowError"], apart := false, narrowed := true }
def EgressFirstUptoSaid : Prop := egressFirstUptoRow.holds Tryz.pinned (OpenSpec.upto egressFirstSpec)

/-- 'pacemakerlaw43.EgressPlays', WHERE WHAT IT READS IS OF BULK AT MOST 1048576: true; the input reads as it did. -/
def egressPlaysUptoRow : OpenClaim := { program := "ytdddfmdcjjbegaagreat", sum := "bbe0325327f6075fe1c0482edb942c0f9d7eb5fcc0430cd7e591bdeb96a2c8c9", func := "pacemaker/pacemakerlaw43.EgressPlays", spec := "egressPlays", inPlace := ["math/bits.Add64"], unfollowed := true, recurses := true, named := ["math/bits.divideError", "math/bits.overflowError"], apart := false, narrowed := true }
def EgressPlaysUptoSaid : Prop := egressPlaysUptoRow.holds Tryz.pinned (OpenSpec.upto egressPlaysSpec)

/-- 'pacemakerlaw43.EgressNobody', WHERE WHAT IT READS IS OF BULK AT MOST 1048576: true; the input reads as it did. -/
def egressNobodyUptoRow : OpenClaim := { program := "ytdddfmdcjjbegaagreat", sum := "bbe0325327f6075fe1c0482edb942c0f9d7eb5fcc0430cd7e591bdeb96a2c8c9", func := "pacemaker/pacemakerlaw43.EgressNobody", spec := "egressNobody", inPlace := ["math/bits.Add64"], unfollowed := true, recurses := true, named := ["math/bits.divideError", "math/bits.overflowError"], apart := false, narrowed := true }
def EgressNobodyUptoSaid : Prop := egressNobodyUptoRow.holds Tryz.pinned (OpenSpec.upto egressNobodySpec)

end Rows
end Go.Proofs.YtdddfmdcjjbegaaGreat
