/-
  No cell of these rows narrows 'for every input' (looked for: loops, veiled, ifaces, maps, wideKeys, modest, calm, conditions, laid).
  DERIVED. THE GIVEN ROWS OF THIS SEAT. 3 by the template 'for every input the law returns true; each argument reads behind the call as it read before'; 0 by the template 'total and deterministic' (their statements: YtgppbclgabdkoaaTotals.lean).
  GIVEN WITH THE SEED: the statements are not yours to turn. If you find one false, say at which input.
  Laid BY PROGRAM, IN A SANDBOX (cutbox-rows.mjs): the forced cells as the released guide's own fill.sh prints them over the translation fb8f837183d3c443… (all of the seat's roots in one cut). By AI agents, Wed Nov 11 2026. No macro, syntax, notation, axiom, sorry.
-/
import Derived.Test.YtgppbclgabdkoaaChecked
import GoSem.Claim
import GoSem.ClaimJoined
import GoSem.ClaimMapViews
import Derived.JoinedTies
import Derived.KernelRfl
namespace Go.Proofs.Ytgppbclgabdkoaa
/- THE CELL 'sum', in the pinned program and in every row, IS THE sha256 OF THE DUMP (.gsa) THAT YtgppbclgabdkoaaProg.lean LOADS. Nothing in Lean hashes anything: it is a label: what it is worth is what the hold of that sum in a sandbox is worth. -/
noncomputable def Try.pinned : Pinned := { name := "ytgppbclgabdkoaa", sum := "fb8f837183d3c4430b1887ce59aaf4521d4cd31986344f9655dc6be0bad7cd7e", checked := Try.checked }
namespace Rows
def none {H : Type} : Left H := { results := [], args := [] }

/-- 'pacemakerlaw13.AifoPlays': WHATEVER THE INPUT: true; the input reads as it did. -/
def aifoPlaysSpec : ChangeSpec := { name := "aifoPlays", fn := fun _ => fun
  | [d1, d2, d3] => { results := [.lit (.bool true)], args := [d1, d2, d3] }
  | _ => none }
def aifoPlaysRow : OpenClaim := { program := "ytgppbclgabdkoaa", sum := "fb8f837183d3c4430b1887ce59aaf4521d4cd31986344f9655dc6be0bad7cd7e", func := "pacemaker/pacemakerlaw13.AifoPlays", spec := "aifoPlays", apart := false }
def AifoPlaysSaid : Prop := aifoPlaysRow.holds Try.pinned (OpenSpec.ofChange aifoPlaysSpec)

/-- ITS FALSE NEIGHBOUR: 'it returns false'. Refute it at one input. -/
def aifoPlaysWrong : ChangeSpec := { name := "aifoPlays", fn := fun _ => fun
  | [d1, d2, d3] => { results := [.lit (.bool false)], args := [d1, d2, d3] }
  | _ => none }
def AifoPlaysWrongFalsely : Prop := aifoPlaysRow.holds Try.pinned (OpenSpec.ofChange aifoPlaysWrong)

/-- 'pacemakerlaw13.AifoRises': WHATEVER THE INPUT: true; the input reads as it did. -/
def aifoRisesSpec : ChangeSpec := { name := "aifoRises", fn := fun _ => fun
  | [d1, d2, d3] => { results := [.lit (.bool true)], args := [d1, d2, d3] }
  | _ => none }
def aifoRisesRow : OpenClaim := { program := "ytgppbclgabdkoaa", sum := "fb8f837183d3c4430b1887ce59aaf4521d4cd31986344f9655dc6be0bad7cd7e", func := "pacemaker/pacemakerlaw13.AifoRises", spec := "aifoRises", apart := false }
def AifoRisesSaid : Prop := aifoRisesRow.holds Try.pinned (OpenSpec.ofChange aifoRisesSpec)

/-- ITS FALSE NEIGHBOUR: 'it returns false'. Refute it at one input. -/
def aifoRisesWrong : ChangeSpec := { name := "aifoRises", fn := fun _ => fun
  | [d1, d2, d3] => { results := [.lit (.bool false)], args := [d1, d2, d3] }
  | _ => none }
def AifoRisesWrongFalsely : Prop := aifoRisesRow.holds Try.pinned (OpenSpec.ofChange aifoRisesWrong)

/-- 'pacemakerlaw13.AifoNobody': WHATEVER THE INPUT: true; the input reads as it did. -/
def aifoNobodySpec : ChangeSpec := { name := "aifoNobody", fn := fun _ => fun
  | [d] => { results := [.lit (.bool true)], args := [d] }
  | _ => none }
def aifoNobodyRow : OpenClaim := { program := "ytgppbclgabdkoaa", sum := "fb8f837183d3c4430b1887ce59aaf4521d4cd31986344f9655dc6be0bad7cd7e", func := "pacemaker/pacemakerlaw13.AifoNobody", spec := "aifoNobody", apart := false }
def AifoNobodySaid : Prop := aifoNobodyRow.holds Try.pinned (OpenSpec.ofChange aifoNobodySpec)

/-- ITS FALSE NEIGHBOUR: 'it returns false'. Refute it at one input. -/
def aifoNobodyWrong : ChangeSpec := { name := "aifoNobody", fn := fun _ => fun
  | [d] => { results := [.lit (.bool false)], args := [d] }
  | _ => none }
def AifoNobodyWrongFalsely : Prop := aifoNobodyRow.holds Try.pinned (OpenSpec.ofChange aifoNobodyWrong)

/- THE SECOND FORM. 'bulk': how many values and letters a reading holds, each counted each time it is reached (what is shared counts as often as it is met; a slice's spare places count too). A statement '..UptoSaid' is the law's where the arguments, and the package variables that the reading takes, are together of bulk at most 1048576: NARROWER than '..Said'. Prove '..Said' where nothing that the law and all that it calls make is longer than what came in: it says more and counts as full. Else prove '..UptoSaid'. A law counts once. -/
mutual
def uptoBulk {H : Type} : DataW H → Nat
  | .lit (.string bytes) => bytes.length + 1
  | .lit _ => 1
  | .nil => 1
  | .ptr d => uptoBulk d + 1
  | .slice elems spare => uptoBulkAll elems + uptoBulkAll spare + 1
  | .agg parts => uptoBulkAll parts + 1
  | .iface _ d => uptoBulk d + 1
  | .map entries => uptoBulkEntries entries + 1
  | .held _ => 1
def uptoBulkAll {H : Type} : List (DataW H) → Nat
  | [] => 0
  | d :: r => uptoBulk d + uptoBulkAll r
def uptoBulkEntries {H : Type} : List (Lit × DataW H) → Nat
  | [] => 0
  | x :: r => uptoBulkEntry x + uptoBulkEntries r
def uptoBulkEntry {H : Type} : Lit × DataW H → Nat
  | (.string bytes, d) => bytes.length + uptoBulk d + 1
  | (_, d) => uptoBulk d + 1
 end
def uptoSmall : (H : Type) → List (DataW H) → Bool := fun _ ds => decide (uptoBulkAll ds ≤ 1048576)
def OpenSpec.upto (s : _root_.Go.ChangeSpec) : _root_.Go.OpenSpec := { _root_.Go.OpenSpec.ofChange s with cond := some uptoSmall }

/-- 'pacemakerlaw13.AifoPlays', WHERE WHAT IT READS IS OF BULK AT MOST 1048576: true; the input reads as it did. -/
def aifoPlaysUptoRow : OpenClaim := { program := "ytgppbclgabdkoaa", sum := "fb8f837183d3c4430b1887ce59aaf4521d4cd31986344f9655dc6be0bad7cd7e", func := "pacemaker/pacemakerlaw13.AifoPlays", spec := "aifoPlays", apart := false, narrowed := true }
def AifoPlaysUptoSaid : Prop := aifoPlaysUptoRow.holds Try.pinned (OpenSpec.upto aifoPlaysSpec)

/-- 'pacemakerlaw13.AifoRises', WHERE WHAT IT READS IS OF BULK AT MOST 1048576: true; the input reads as it did. -/
def aifoRisesUptoRow : OpenClaim := { program := "ytgppbclgabdkoaa", sum := "fb8f837183d3c4430b1887ce59aaf4521d4cd31986344f9655dc6be0bad7cd7e", func := "pacemaker/pacemakerlaw13.AifoRises", spec := "aifoRises", apart := false, narrowed := true }
def AifoRisesUptoSaid : Prop := aifoRisesUptoRow.holds Try.pinned (OpenSpec.upto aifoRisesSpec)

/-- 'pacemakerlaw13.AifoNobody', WHERE WHAT IT READS IS OF BULK AT MOST 1048576: true; the input reads as it did. -/
def aifoNobodyUptoRow : OpenClaim := { program := "ytgppbclgabdkoaa", sum := "fb8f837183d3c4430b1887ce59aaf4521d4cd31986344f9655dc6be0bad7cd7e", func := "pacemaker/pacemakerlaw13.AifoNobody", spec := "aifoNobody", apart := false, narrowed := true }
def AifoNobodyUptoSaid : Prop := aifoNobodyUptoRow.holds Try.pinned (OpenSpec.upto aifoNobodySpec)

end Rows
end Go.Proofs.Ytgppbclgabdkoaa
