/-
  No cell of these rows narrows 'for every input' (looked for: loops, veiled, ifaces, maps, wideKeys, modest, calm, conditions, laid).
  DERIVED. THE GIVEN ROWS OF THIS SEAT. 10 by the template 'for every input the law returns true; each argument reads behind the call as it read before'; 0 by the template 'total and deterministic' (their statements: YtopibbaopglggaaTotals.lean).
  GIVEN WITH THE SEED: the statements are not yours to turn. If you find one false, say at which input.
  Laid BY PROGRAM, IN A SANDBOX (cutbox-rows.mjs): the forced cells as the released guide's own fill.sh prints them over the translation b1fc958e45bf8ecb… (all of the seat's roots in one cut). By AI agents, Wed Nov 11 2026. No macro, syntax, notation, axiom, sorry.
-/
import Derived.Test.YtopibbaopglggaaChecked
import GoSem.Claim
import GoSem.ClaimJoined
import GoSem.ClaimMapViews
import Derived.JoinedTies
import Derived.KernelRfl
namespace Go.Proofs.Ytopibbaopglggaa
/- THE CELL 'sum', in the pinned program and in every row, IS THE sha256 OF THE DUMP (.gsa) THAT YtopibbaopglggaaProg.lean LOADS. Nothing in Lean hashes anything: it is a label: what it is worth is what the hold of that sum in a sandbox is worth. -/
noncomputable def Try.pinned : Pinned := { name := "ytopibbaopglggaa", sum := "b1fc958e45bf8ecbe87e0f4418a666f9eb596bbca0c29997e832be507296af1c", checked := Try.checked }
namespace Rows
def none {H : Type} : Left H := { results := [], args := [] }

/-- 'pacemakerlaw12.SpRises': WHATEVER THE INPUT: true; the input reads as it did. -/
def spRisesSpec : ChangeSpec := { name := "spRises", fn := fun _ => fun
  | [d1, d2, d3] => { results := [.lit (.bool true)], args := [d1, d2, d3] }
  | _ => none }
def spRisesRow : OpenClaim := { program := "ytopibbaopglggaa", sum := "b1fc958e45bf8ecbe87e0f4418a666f9eb596bbca0c29997e832be507296af1c", func := "pacemaker/pacemakerlaw12.SpRises", spec := "spRises", apart := false }
def SpRisesSaid : Prop := spRisesRow.holds Try.pinned (OpenSpec.ofChange spRisesSpec)

/-- ITS FALSE NEIGHBOUR: 'it returns false'. Refute it at one input. -/
def spRisesWrong : ChangeSpec := { name := "spRises", fn := fun _ => fun
  | [d1, d2, d3] => { results := [.lit (.bool false)], args := [d1, d2, d3] }
  | _ => none }
def SpRisesWrongFalsely : Prop := spRisesRow.holds Try.pinned (OpenSpec.ofChange spRisesWrong)

/-- 'pacemakerlaw12.SpKeeps': WHATEVER THE INPUT: true; the input reads as it did. -/
def spKeepsSpec : ChangeSpec := { name := "spKeeps", fn := fun _ => fun
  | [d1, d2] => { results := [.lit (.bool true)], args := [d1, d2] }
  | _ => none }
def spKeepsRow : OpenClaim := { program := "ytopibbaopglggaa", sum := "b1fc958e45bf8ecbe87e0f4418a666f9eb596bbca0c29997e832be507296af1c", func := "pacemaker/pacemakerlaw12.SpKeeps", spec := "spKeeps", apart := false }
def SpKeepsSaid : Prop := spKeepsRow.holds Try.pinned (OpenSpec.ofChange spKeepsSpec)

/-- ITS FALSE NEIGHBOUR: 'it returns false'. Refute it at one input. -/
def spKeepsWrong : ChangeSpec := { name := "spKeeps", fn := fun _ => fun
  | [d1, d2] => { results := [.lit (.bool false)], args := [d1, d2] }
  | _ => none }
def SpKeepsWrongFalsely : Prop := spKeepsRow.holds Try.pinned (OpenSpec.ofChange spKeepsWrong)

/-- 'pacemakerlaw12.SpBounds': WHATEVER THE INPUT: true; the input reads as it did. -/
def spBoundsSpec : ChangeSpec := { name := "spBounds", fn := fun _ => fun
  | [d1, d2] => { results := [.lit (.bool true)], args := [d1, d2] }
  | _ => none }
def spBoundsRow : OpenClaim := { program := "ytopibbaopglggaa", sum := "b1fc958e45bf8ecbe87e0f4418a666f9eb596bbca0c29997e832be507296af1c", func := "pacemaker/pacemakerlaw12.SpBounds", spec := "spBounds", apart := false }
def SpBoundsSaid : Prop := spBoundsRow.holds Try.pinned (OpenSpec.ofChange spBoundsSpec)

/-- ITS FALSE NEIGHBOUR: 'it returns false'. Refute it at one input. -/
def spBoundsWrong : ChangeSpec := { name := "spBounds", fn := fun _ => fun
  | [d1, d2] => { results := [.lit (.bool false)], args := [d1, d2] }
  | _ => none }
def SpBoundsWrongFalsely : Prop := spBoundsRow.holds Try.pinned (OpenSpec.ofChange spBoundsWrong)

/-- 'pacemakerlaw29.DrrFair': WHATEVER THE INPUT: true; the input reads as it did. -/
def drrFairSpec : ChangeSpec := { name := "drrFair", fn := fun _ => fun
  | [d1, d2, d3] => { results := [.lit (.bool true)], args := [d1, d2, d3] }
  | _ => none }
def drrFairRow : OpenClaim := { program := "ytopibbaopglggaa", sum := "b1fc958e45bf8ecbe87e0f4418a666f9eb596bbca0c29997e832be507296af1c", func := "pacemaker/pacemakerlaw29.DrrFair", spec := "drrFair", apart := false }
def DrrFairSaid : Prop := drrFairRow.holds Try.pinned (OpenSpec.ofChange drrFairSpec)

/-- ITS FALSE NEIGHBOUR: 'it returns false'. Refute it at one input. -/
def drrFairWrong : ChangeSpec := { name := "drrFair", fn := fun _ => fun
  | [d1, d2, d3] => { results := [.lit (.bool false)], args := [d1, d2, d3] }
  | _ => none }
def DrrFairWrongFalsely : Prop := drrFairRow.holds Try.pinned (OpenSpec.ofChange drrFairWrong)

/-- 'pacemakerlaw12.SpPlays': WHATEVER THE INPUT: true; the input reads as it did. -/
def spPlaysSpec : ChangeSpec := { name := "spPlays", fn := fun _ => fun
  | [d1, d2, d3] => { results := [.lit (.bool true)], args := [d1, d2, d3] }
  | _ => none }
def spPlaysRow : OpenClaim := { program := "ytopibbaopglggaa", sum := "b1fc958e45bf8ecbe87e0f4418a666f9eb596bbca0c29997e832be507296af1c", func := "pacemaker/pacemakerlaw12.SpPlays", spec := "spPlays", apart := false }
def SpPlaysSaid : Prop := spPlaysRow.holds Try.pinned (OpenSpec.ofChange spPlaysSpec)

/-- ITS FALSE NEIGHBOUR: 'it returns false'. Refute it at one input. -/
def spPlaysWrong : ChangeSpec := { name := "spPlays", fn := fun _ => fun
  | [d1, d2, d3] => { results := [.lit (.bool false)], args := [d1, d2, d3] }
  | _ => none }
def SpPlaysWrongFalsely : Prop := spPlaysRow.holds Try.pinned (OpenSpec.ofChange spPlaysWrong)

/-- 'pacemakerlaw29.DrrOrder': WHATEVER THE INPUT: true; the input reads as it did. -/
def drrOrderSpec : ChangeSpec := { name := "drrOrder", fn := fun _ => fun
  | [d1, d2] => { results := [.lit (.bool true)], args := [d1, d2] }
  | _ => none }
def drrOrderRow : OpenClaim := { program := "ytopibbaopglggaa", sum := "b1fc958e45bf8ecbe87e0f4418a666f9eb596bbca0c29997e832be507296af1c", func := "pacemaker/pacemakerlaw29.DrrOrder", spec := "drrOrder", apart := false }
def DrrOrderSaid : Prop := drrOrderRow.holds Try.pinned (OpenSpec.ofChange drrOrderSpec)

/-- ITS FALSE NEIGHBOUR: 'it returns false'. Refute it at one input. -/
def drrOrderWrong : ChangeSpec := { name := "drrOrder", fn := fun _ => fun
  | [d1, d2] => { results := [.lit (.bool false)], args := [d1, d2] }
  | _ => none }
def DrrOrderWrongFalsely : Prop := drrOrderRow.holds Try.pinned (OpenSpec.ofChange drrOrderWrong)

/-- 'pacemakerlaw29.DrrPlays': WHATEVER THE INPUT: true; the input reads as it did. -/
def drrPlaysSpec : ChangeSpec := { name := "drrPlays", fn := fun _ => fun
  | [d1, d2] => { results := [.lit (.bool true)], args := [d1, d2] }
  | _ => none }
def drrPlaysRow : OpenClaim := { program := "ytopibbaopglggaa", sum := "b1fc958e45bf8ecbe87e0f4418a666f9eb596bbca0c29997e832be507296af1c", func := "pacemaker/pacemakerlaw29.DrrPlays", spec := "drrPlays", apart := false }
def DrrPlaysSaid : Prop := drrPlaysRow.holds Try.pinned (OpenSpec.ofChange drrPlaysSpec)

/-- ITS FALSE NEIGHBOUR: 'it returns false'. Refute it at one input. -/
def drrPlaysWrong : ChangeSpec := { name := "drrPlays", fn := fun _ => fun
  | [d1, d2] => { results := [.lit (.bool false)], args := [d1, d2] }
  | _ => none }
def DrrPlaysWrongFalsely : Prop := drrPlaysRow.holds Try.pinned (OpenSpec.ofChange drrPlaysWrong)

/-- 'pacemakerlaw29.DrrNobody': WHATEVER THE INPUT: true; the input reads as it did. -/
def drrNobodySpec : ChangeSpec := { name := "drrNobody", fn := fun _ => fun
  | [d1, d2] => { results := [.lit (.bool true)], args := [d1, d2] }
  | _ => none }
def drrNobodyRow : OpenClaim := { program := "ytopibbaopglggaa", sum := "b1fc958e45bf8ecbe87e0f4418a666f9eb596bbca0c29997e832be507296af1c", func := "pacemaker/pacemakerlaw29.DrrNobody", spec := "drrNobody", apart := false }
def DrrNobodySaid : Prop := drrNobodyRow.holds Try.pinned (OpenSpec.ofChange drrNobodySpec)

/-- ITS FALSE NEIGHBOUR: 'it returns false'. Refute it at one input. -/
def drrNobodyWrong : ChangeSpec := { name := "drrNobody", fn := fun _ => fun
  | [d1, d2] => { results := [.lit (.bool false)], args := [d1, d2] }
  | _ => none }
def DrrNobodyWrongFalsely : Prop := drrNobodyRow.holds Try.pinned (OpenSpec.ofChange drrNobodyWrong)

/-- 'pacemakerlaw12.SpLays': WHATEVER THE INPUT: true; the input reads as it did. -/
def spLaysSpec : ChangeSpec := { name := "spLays", fn := fun _ => fun
  | [d1, d2, d3] => { results := [.lit (.bool true)], args := [d1, d2, d3] }
  | _ => none }
def spLaysRow : OpenClaim := { program := "ytopibbaopglggaa", sum := "b1fc958e45bf8ecbe87e0f4418a666f9eb596bbca0c29997e832be507296af1c", func := "pacemaker/pacemakerlaw12.SpLays", spec := "spLays", apart := false }
def SpLaysSaid : Prop := spLaysRow.holds Try.pinned (OpenSpec.ofChange spLaysSpec)

/-- ITS FALSE NEIGHBOUR: 'it returns false'. Refute it at one input. -/
def spLaysWrong : ChangeSpec := { name := "spLays", fn := fun _ => fun
  | [d1, d2, d3] => { results := [.lit (.bool false)], args := [d1, d2, d3] }
  | _ => none }
def SpLaysWrongFalsely : Prop := spLaysRow.holds Try.pinned (OpenSpec.ofChange spLaysWrong)

/-- 'pacemakerlaw12.SpNobody': WHATEVER THE INPUT: true; the input reads as it did. -/
def spNobodySpec : ChangeSpec := { name := "spNobody", fn := fun _ => fun
  | [d1, d2] => { results := [.lit (.bool true)], args := [d1, d2] }
  | _ => none }
def spNobodyRow : OpenClaim := { program := "ytopibbaopglggaa", sum := "b1fc958e45bf8ecbe87e0f4418a666f9eb596bbca0c29997e832be507296af1c", func := "pacemaker/pacemakerlaw12.SpNobody", spec := "spNobody", apart := false }
def SpNobodySaid : Prop := spNobodyRow.holds Try.pinned (OpenSpec.ofChange spNobodySpec)

/-- ITS FALSE NEIGHBOUR: 'it returns false'. Refute it at one input. -/
def spNobodyWrong : ChangeSpec := { name := "spNobody", fn := fun _ => fun
  | [d1, d2] => { results := [.lit (.bool false)], args := [d1, d2] }
  | _ => none }
def SpNobodyWrongFalsely : Prop := spNobodyRow.holds Try.pinned (OpenSpec.ofChange spNobodyWrong)

/- THE SECOND FORM. 'bulk': how many values and letters a reading holds, each counted each time it is reached (what is shared counts as often as it is met; a slice's spare places count too). A statement '..UptoSaid' is the law's where the arguments, and the package variables that the reading takes, are together of bulk at most 1048576: NARROWER than '..Said'. Prove '..Said' where nothing that the law and all that it calls make is longer than what came in: it says more and counts as full. Else prove '..UptoSaid'. A law counts once. -/
mutual
def uptoBulk {H : Type} : DataW H → Nat
  | .lit (.string bytes) => bytes.length + 1
  | .lit _ => 1
  | .nil => 1
  | .ptr d => uptoBulk d + 1
  | .slice elems spare => uptoBulkAll elems + uptoBulkAll spare + 1
  | .agg parts => uptoBulkAll parts + 1
  | .iface _ d => uptoBulk d + 1
  | .map entries => uptoBulkEntries entries + 1
  | .held _ => 1
def uptoBulkAll {H : Type} : List (DataW H) → Nat
  | [] => 0
  | d :: r => uptoBulk d + uptoBulkAll r
def uptoBulkEntries {H : Type} : List (Lit × DataW H) → Nat
  | [] => 0
  | x :: r => uptoBulkEntry x + uptoBulkEntries r
def uptoBulkEntry {H : Type} : Lit × DataW H → Nat
  | (.string bytes, d) => bytes.length + uptoBulk d + 1
  | (_, d) => uptoBulk d + 1
 end
def uptoSmall : (H : Type) → List (DataW H) → Bool := fun _ ds => decide (uptoBulkAll ds ≤ 1048576)
def OpenSpec.upto (s : _root_.Go.ChangeSpec) : _root_.Go.OpenSpec := { _root_.Go.OpenSpec.ofChange s with cond := some uptoSmall }

/-- 'pacemakerlaw12.SpRises', WHERE WHAT IT READS IS OF BULK AT MOST 1048576: true; the input reads as it did. -/
def spRisesUptoRow : OpenClaim := { program := "ytopibbaopglggaa", sum := "b1fc958e45bf8ecbe87e0f4418a666f9eb596bbca0c29997e832be507296af1c", func := "pacemaker/pacemakerlaw12.SpRises", spec := "spRises", apart := false, narrowed := true }
def SpRisesUptoSaid : Prop := spRisesUptoRow.holds Try.pinned (OpenSpec.upto spRisesSpec)

/-- 'pacemakerlaw12.SpKeeps', WHERE WHAT IT READS IS OF BULK AT MOST 1048576: true; the input reads as it did. -/
def spKeepsUptoRow : OpenClaim := { program := "ytopibbaopglggaa", sum := "b1fc958e45bf8ecbe87e0f4418a666f9eb596bbca0c29997e832be507296af1c", func := "pacemaker/pacemakerlaw12.SpKeeps", spec := "spKeeps", apart := false, narrowed := true }
def SpKeepsUptoSaid : Prop := spKeepsUptoRow.holds Try.pinned (OpenSpec.upto spKeepsSpec)

/-- 'pacemakerlaw12.SpBounds', WHERE WHAT IT READS IS OF BULK AT MOST 1048576: true; the input reads as it did. -/
def spBoundsUptoRow : OpenClaim := { program := "ytopibbaopglggaa", sum := "b1fc958e45bf8ecbe87e0f4418a666f9eb596bbca0c29997e832be507296af1c", func := "pacemaker/pacemakerlaw12.SpBounds", spec := "spBounds", apart := false, narrowed := true }
def SpBoundsUptoSaid : Prop := spBoundsUptoRow.holds Try.pinned (OpenSpec.upto spBoundsSpec)

/-- 'pacemakerlaw29.DrrFair', WHERE WHAT IT READS IS OF BULK AT MOST 1048576: true; the input reads as it did. -/
def drrFairUptoRow : OpenClaim := { program := "ytopibbaopglggaa", sum := "b1fc958e45bf8ecbe87e0f4418a666f9eb596bbca0c29997e832be507296af1c", func := "pacemaker/pacemakerlaw29.DrrFair", spec := "drrFair", apart := false, narrowed := true }
def DrrFairUptoSaid : Prop := drrFairUptoRow.holds Try.pinned (OpenSpec.upto drrFairSpec)

/-- 'pacemakerlaw12.SpPlays', WHERE WHAT IT READS IS OF BULK AT MOST 1048576: true; the input reads as it did. -/
def spPlaysUptoRow : OpenClaim := { program := "ytopibbaopglggaa", sum := "b1fc958e45bf8ecbe87e0f4418a666f9eb596bbca0c29997e832be507296af1c", func := "pacemaker/pacemakerlaw12.SpPlays", spec := "spPlays", apart := false, narrowed := true }
def SpPlaysUptoSaid : Prop := spPlaysUptoRow.holds Try.pinned (OpenSpec.upto spPlaysSpec)

/-- 'pacemakerlaw29.DrrOrder', WHERE WHAT IT READS IS OF BULK AT MOST 1048576: true; the input reads as it did. -/
def drrOrderUptoRow : OpenClaim := { program := "ytopibbaopglggaa", sum := "b1fc958e45bf8ecbe87e0f4418a666f9eb596bbca0c29997e832be507296af1c", func := "pacemaker/pacemakerlaw29.DrrOrder", spec := "drrOrder", apart := false, narrowed := true }
def DrrOrderUptoSaid : Prop := drrOrderUptoRow.holds Try.pinned (OpenSpec.upto drrOrderSpec)

/-- 'pacemakerlaw29.DrrPlays', WHERE WHAT IT READS IS OF BULK AT MOST 1048576: true; the input reads as it did. -/
def drrPlaysUptoRow : OpenClaim := { program := "ytopibbaopglggaa", sum := "b1fc958e45bf8ecbe87e0f4418a666f9eb596bbca0c29997e832be507296af1c", func := "pacemaker/pacemakerlaw29.DrrPlays", spec := "drrPlays", apart := false, narrowed := true }
def DrrPlaysUptoSaid : Prop := drrPlaysUptoRow.holds Try.pinned (OpenSpec.upto drrPlaysSpec)

/-- 'pacemakerlaw29.DrrNobody', WHERE WHAT IT READS IS OF BULK AT MOST 1048576: true; the input reads as it did. -/
def drrNobodyUptoRow : OpenClaim := { program := "ytopibbaopglggaa", sum := "b1fc958e45bf8ecbe87e0f4418a666f9eb596bbca0c29997e832be507296af1c", func := "pacemaker/pacemakerlaw29.DrrNobody", spec := "drrNobody", apart := false, narrowed := true }
def DrrNobodyUptoSaid : Prop := drrNobodyUptoRow.holds Try.pinned (OpenSpec.upto drrNobodySpec)

/-- 'pacemakerlaw12.SpLays', WHERE WHAT IT READS IS OF BULK AT MOST 1048576: true; the input reads as it did. -/
def spLaysUptoRow : OpenClaim := { program := "ytopibbaopglggaa", sum := "b1fc958e45bf8ecbe87e0f4418a666f9eb596bbca0c29997e832be507296af1c", func := "pacemaker/pacemakerlaw12.SpLays", spec := "spLays", apart := false, narrowed := true }
def SpLaysUptoSaid : Prop := spLaysUptoRow.holds Try.pinned (OpenSpec.upto spLaysSpec)

/-- 'pacemakerlaw12.SpNobody', WHERE WHAT IT READS IS OF BULK AT MOST 1048576: true; the input reads as it did. -/
def spNobodyUptoRow : OpenClaim := { program := "ytopibbaopglggaa", sum := "b1fc958e45bf8ecbe87e0f4418a666f9eb596bbca0c29997e832be507296af1c", func := "pacemaker/pacemakerlaw12.SpNobody", spec := "spNobody", apart := false, narrowed := true }
def SpNobodyUptoSaid : Prop := spNobodyUptoRow.holds Try.pinned (OpenSpec.upto spNobodySpec)

end Rows
end Go.Proofs.Ytopibbaopglggaa
