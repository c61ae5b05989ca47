/-
  No cell of these rows narrows 'for every input' (looked for: loops, veiled, ifaces, maps, wideKeys, modest, calm, conditions, laid).
  DERIVED. THE GIVEN ROWS OF THIS SEAT. 10 by the template 'for every input the law returns true; each argument reads behind the call as it read before'; 0 by the template 'total and deterministic' (their statements: YtgmiggnlhcldlaaTotals.lean).
  GIVEN WITH THE SEED: the statements are not yours to turn. If you find one false, say at which input.
  Laid BY PROGRAM, IN A SANDBOX (cutbox-rows.mjs): the forced cells as the released guide's own fill.sh prints them over the translation 3743562153baf1d5… (all of the seat's roots in one cut). By AI agents, Wed Nov 11 2026. No macro, syntax, notation, axiom, sorry.
-/
import Derived.Test.YtgmiggnlhcldlaaChecked
import GoSem.Claim
import GoSem.ClaimJoined
import GoSem.ClaimMapViews
import Derived.JoinedTies
import Derived.KernelRfl
namespace Go.Proofs.Ytgmiggnlhcldlaa
/- THE CELL 'sum', in the pinned program and in every row, IS THE sha256 OF THE DUMP (.gsa) THAT YtgmiggnlhcldlaaProg.lean LOADS. Nothing in Lean hashes anything: it is a label: what it is worth is what the hold of that sum in a sandbox is worth. -/
noncomputable def Try.pinned : Pinned := { name := "ytgmiggnlhcldlaa", sum := "3743562153baf1d5aedf8752a304a5b1d272141b9f0a3dfd5ce4b3bdbd11ac91", checked := Try.checked }
namespace Rows
def none {H : Type} : Left H := { results := [], args := [] }

/-- 'pacemakerlaw20.BucketTells': WHATEVER THE INPUT: true; the input reads as it did. -/
def bucketTellsSpec : ChangeSpec := { name := "bucketTells", fn := fun _ => fun
  | [d1, d2, d3] => { results := [.lit (.bool true)], args := [d1, d2, d3] }
  | _ => none }
def bucketTellsRow : OpenClaim := { program := "ytgmiggnlhcldlaa", sum := "3743562153baf1d5aedf8752a304a5b1d272141b9f0a3dfd5ce4b3bdbd11ac91", func := "pacemaker/pacemakerlaw20.BucketTells", spec := "bucketTells", inPlace := ["math/bits.Add64"], apart := false }
def BucketTellsSaid : Prop := bucketTellsRow.holds Try.pinned (OpenSpec.ofChange bucketTellsSpec)

/-- ITS FALSE NEIGHBOUR: 'it returns false'. Refute it at one input. -/
def bucketTellsWrong : ChangeSpec := { name := "bucketTells", fn := fun _ => fun
  | [d1, d2, d3] => { results := [.lit (.bool false)], args := [d1, d2, d3] }
  | _ => none }
def BucketTellsWrongFalsely : Prop := bucketTellsRow.holds Try.pinned (OpenSpec.ofChange bucketTellsWrong)

/-- 'pacemakerlaw20.BucketConforms': WHATEVER THE INPUT: true; the input reads as it did. -/
def bucketConformsSpec : ChangeSpec := { name := "bucketConforms", fn := fun _ => fun
  | [d1, d2, d3] => { results := [.lit (.bool true)], args := [d1, d2, d3] }
  | _ => none }
def bucketConformsRow : OpenClaim := { program := "ytgmiggnlhcldlaa", sum := "3743562153baf1d5aedf8752a304a5b1d272141b9f0a3dfd5ce4b3bdbd11ac91", func := "pacemaker/pacemakerlaw20.BucketConforms", spec := "bucketConforms", inPlace := ["math/bits.Add64"], apart := false }
def BucketConformsSaid : Prop := bucketConformsRow.holds Try.pinned (OpenSpec.ofChange bucketConformsSpec)

/-- ITS FALSE NEIGHBOUR: 'it returns false'. Refute it at one input. -/
def bucketConformsWrong : ChangeSpec := { name := "bucketConforms", fn := fun _ => fun
  | [d1, d2, d3] => { results := [.lit (.bool false)], args := [d1, d2, d3] }
  | _ => none }
def BucketConformsWrongFalsely : Prop := bucketConformsRow.holds Try.pinned (OpenSpec.ofChange bucketConformsWrong)

/-- 'pacemakerlaw20.BucketCut': WHATEVER THE INPUT: true; the input reads as it did. -/
def bucketCutSpec : ChangeSpec := { name := "bucketCut", fn := fun _ => fun
  | [d1, d2, d3] => { results := [.lit (.bool true)], args := [d1, d2, d3] }
  | _ => none }
def bucketCutRow : OpenClaim := { program := "ytgmiggnlhcldlaa", sum := "3743562153baf1d5aedf8752a304a5b1d272141b9f0a3dfd5ce4b3bdbd11ac91", func := "pacemaker/pacemakerlaw20.BucketCut", spec := "bucketCut", inPlace := ["math/bits.Add64"], apart := false }
def BucketCutSaid : Prop := bucketCutRow.holds Try.pinned (OpenSpec.ofChange bucketCutSpec)

/-- ITS FALSE NEIGHBOUR: 'it returns false'. Refute it at one input. -/
def bucketCutWrong : ChangeSpec := { name := "bucketCut", fn := fun _ => fun
  | [d1, d2, d3] => { results := [.lit (.bool false)], args := [d1, d2, d3] }
  | _ => none }
def BucketCutWrongFalsely : Prop := bucketCutRow.holds Try.pinned (OpenSpec.ofChange bucketCutWrong)

/-- 'pacemakerlaw20.BucketWaits': WHATEVER THE INPUT: true; the input reads as it did. -/
def bucketWaitsSpec : ChangeSpec := { name := "bucketWaits", fn := fun _ => fun
  | [d1, d2] => { results := [.lit (.bool true)], args := [d1, d2] }
  | _ => none }
def bucketWaitsRow : OpenClaim := { program := "ytgmiggnlhcldlaa", sum := "3743562153baf1d5aedf8752a304a5b1d272141b9f0a3dfd5ce4b3bdbd11ac91", func := "pacemaker/pacemakerlaw20.BucketWaits", spec := "bucketWaits", inPlace := ["math/bits.Add64"], apart := false }
def BucketWaitsSaid : Prop := bucketWaitsRow.holds Try.pinned (OpenSpec.ofChange bucketWaitsSpec)

/-- ITS FALSE NEIGHBOUR: 'it returns false'. Refute it at one input. -/
def bucketWaitsWrong : ChangeSpec := { name := "bucketWaits", fn := fun _ => fun
  | [d1, d2] => { results := [.lit (.bool false)], args := [d1, d2] }
  | _ => none }
def BucketWaitsWrongFalsely : Prop := bucketWaitsRow.holds Try.pinned (OpenSpec.ofChange bucketWaitsWrong)

/-- 'pacemakerlaw19.CodelPlays': WHATEVER THE INPUT: true; the input reads as it did. -/
def codelPlaysSpec : ChangeSpec := { name := "codelPlays", fn := fun _ => fun
  | [d1, d2, d3] => { results := [.lit (.bool true)], args := [d1, d2, d3] }
  | _ => none }
def codelPlaysRow : OpenClaim := { program := "ytgmiggnlhcldlaa", sum := "3743562153baf1d5aedf8752a304a5b1d272141b9f0a3dfd5ce4b3bdbd11ac91", func := "pacemaker/pacemakerlaw19.CodelPlays", spec := "codelPlays", inPlace := ["math/bits.Add64"], apart := false }
def CodelPlaysSaid : Prop := codelPlaysRow.holds Try.pinned (OpenSpec.ofChange codelPlaysSpec)

/-- ITS FALSE NEIGHBOUR: 'it returns false'. Refute it at one input. -/
def codelPlaysWrong : ChangeSpec := { name := "codelPlays", fn := fun _ => fun
  | [d1, d2, d3] => { results := [.lit (.bool false)], args := [d1, d2, d3] }
  | _ => none }
def CodelPlaysWrongFalsely : Prop := codelPlaysRow.holds Try.pinned (OpenSpec.ofChange codelPlaysWrong)

/-- 'pacemakerlaw19.CodelLow': WHATEVER THE INPUT: true; the input reads as it did. -/
def codelLowSpec : ChangeSpec := { name := "codelLow", fn := fun _ => fun
  | [d1, d2, d3] => { results := [.lit (.bool true)], args := [d1, d2, d3] }
  | _ => none }
def codelLowRow : OpenClaim := { program := "ytgmiggnlhcldlaa", sum := "3743562153baf1d5aedf8752a304a5b1d272141b9f0a3dfd5ce4b3bdbd11ac91", func := "pacemaker/pacemakerlaw19.CodelLow", spec := "codelLow", inPlace := ["math/bits.Add64"], apart := false }
def CodelLowSaid : Prop := codelLowRow.holds Try.pinned (OpenSpec.ofChange codelLowSpec)

/-- ITS FALSE NEIGHBOUR: 'it returns false'. Refute it at one input. -/
def codelLowWrong : ChangeSpec := { name := "codelLow", fn := fun _ => fun
  | [d1, d2, d3] => { results := [.lit (.bool false)], args := [d1, d2, d3] }
  | _ => none }
def CodelLowWrongFalsely : Prop := codelLowRow.holds Try.pinned (OpenSpec.ofChange codelLowWrong)

/-- 'pacemakerlaw19.CodelFirst': WHATEVER THE INPUT: true; the input reads as it did. -/
def codelFirstSpec : ChangeSpec := { name := "codelFirst", fn := fun _ => fun
  | [d1, d2, d3] => { results := [.lit (.bool true)], args := [d1, d2, d3] }
  | _ => none }
def codelFirstRow : OpenClaim := { program := "ytgmiggnlhcldlaa", sum := "3743562153baf1d5aedf8752a304a5b1d272141b9f0a3dfd5ce4b3bdbd11ac91", func := "pacemaker/pacemakerlaw19.CodelFirst", spec := "codelFirst", inPlace := ["math/bits.Add64"], apart := false }
def CodelFirstSaid : Prop := codelFirstRow.holds Try.pinned (OpenSpec.ofChange codelFirstSpec)

/-- ITS FALSE NEIGHBOUR: 'it returns false'. Refute it at one input. -/
def codelFirstWrong : ChangeSpec := { name := "codelFirst", fn := fun _ => fun
  | [d1, d2, d3] => { results := [.lit (.bool false)], args := [d1, d2, d3] }
  | _ => none }
def CodelFirstWrongFalsely : Prop := codelFirstRow.holds Try.pinned (OpenSpec.ofChange codelFirstWrong)

/-- 'pacemakerlaw18.RedPlays': WHATEVER THE INPUT: true; the input reads as it did. -/
def redPlaysSpec : ChangeSpec := { name := "redPlays", fn := fun _ => fun
  | [d1, d2, d3] => { results := [.lit (.bool true)], args := [d1, d2, d3] }
  | _ => none }
def redPlaysRow : OpenClaim := { program := "ytgmiggnlhcldlaa", sum := "3743562153baf1d5aedf8752a304a5b1d272141b9f0a3dfd5ce4b3bdbd11ac91", func := "pacemaker/pacemakerlaw18.RedPlays", spec := "redPlays", inPlace := ["math/bits.Add64"], named := ["math/bits.divideError", "math/bits.overflowError"], apart := false }
def RedPlaysSaid : Prop := redPlaysRow.holds Try.pinned (OpenSpec.ofChange redPlaysSpec)

/-- ITS FALSE NEIGHBOUR: 'it returns false'. Refute it at one input. -/
def redPlaysWrong : ChangeSpec := { name := "redPlays", fn := fun _ => fun
  | [d1, d2, d3] => { results := [.lit (.bool false)], args := [d1, d2, d3] }
  | _ => none }
def RedPlaysWrongFalsely : Prop := redPlaysRow.holds Try.pinned (OpenSpec.ofChange redPlaysWrong)

/-- 'pacemakerlaw18.RedEdges': WHATEVER THE INPUT: true; the input reads as it did. -/
def redEdgesSpec : ChangeSpec := { name := "redEdges", fn := fun _ => fun
  | [d1, d2, d3] => { results := [.lit (.bool true)], args := [d1, d2, d3] }
  | _ => none }
def redEdgesRow : OpenClaim := { program := "ytgmiggnlhcldlaa", sum := "3743562153baf1d5aedf8752a304a5b1d272141b9f0a3dfd5ce4b3bdbd11ac91", func := "pacemaker/pacemakerlaw18.RedEdges", spec := "redEdges", inPlace := ["math/bits.Add64"], named := ["math/bits.divideError", "math/bits.overflowError"], apart := false }
def RedEdgesSaid : Prop := redEdgesRow.holds Try.pinned (OpenSpec.ofChange redEdgesSpec)

/-- ITS FALSE NEIGHBOUR: 'it returns false'. Refute it at one input. -/
def redEdgesWrong : ChangeSpec := { name := "redEdges", fn := fun _ => fun
  | [d1, d2, d3] => { results := [.lit (.bool false)], args := [d1, d2, d3] }
  | _ => none }
def RedEdgesWrongFalsely : Prop := redEdgesRow.holds Try.pinned (OpenSpec.ofChange redEdgesWrong)

/-- 'pacemakerlaw18.RedEven': WHATEVER THE INPUT: true; the input reads as it did. -/
def redEvenSpec : ChangeSpec := { name := "redEven", fn := fun _ => fun
  | [d1, d2] => { results := [.lit (.bool true)], args := [d1, d2] }
  | _ => none }
def redEvenRow : OpenClaim := { program := "ytgmiggnlhcldlaa", sum := "3743562153baf1d5aedf8752a304a5b1d272141b9f0a3dfd5ce4b3bdbd11ac91", func := "pacemaker/pacemakerlaw18.RedEven", spec := "redEven", inPlace := ["math/bits.Add64"], named := ["math/bits.divideError", "math/bits.overflowError"], apart := false }
def RedEvenSaid : Prop := redEvenRow.holds Try.pinned (OpenSpec.ofChange redEvenSpec)

/-- ITS FALSE NEIGHBOUR: 'it returns false'. Refute it at one input. -/
def redEvenWrong : ChangeSpec := { name := "redEven", fn := fun _ => fun
  | [d1, d2] => { results := [.lit (.bool false)], args := [d1, d2] }
  | _ => none }
def RedEvenWrongFalsely : Prop := redEvenRow.holds Try.pinned (OpenSpec.ofChange redEvenWrong)

/- THE SECOND FORM. 'bulk': how many values and letters a reading holds, each counted each time it is reached (what is shared counts as often as it is met; a slice's spare places count too). A statement '..UptoSaid' is the law's where the arguments, and the package variables that the reading takes, are together of bulk at most 1048576: NARROWER than '..Said'. Prove '..Said' where nothing that the law and all that it calls make is longer than what came in: it says more and counts as full. Else prove '..UptoSaid'. A law counts once. -/
mutual
def uptoBulk {H : Type} : DataW H → Nat
  | .lit (.string bytes) => bytes.length + 1
  | .lit _ => 1
  | .nil => 1
  | .ptr d => uptoBulk d + 1
  | .slice elems spare => uptoBulkAll elems + uptoBulkAll spare + 1
  | .agg parts => uptoBulkAll parts + 1
  | .iface _ d => uptoBulk d + 1
  | .map entries => uptoBulkEntries entries + 1
  | .held _ => 1
def uptoBulkAll {H : Type} : List (DataW H) → Nat
  | [] => 0
  | d :: r => uptoBulk d + uptoBulkAll r
def uptoBulkEntries {H : Type} : List (Lit × DataW H) → Nat
  | [] => 0
  | x :: r => uptoBulkEntry x + uptoBulkEntries r
def uptoBulkEntry {H : Type} : Lit × DataW H → Nat
  | (.string bytes, d) => bytes.length + uptoBulk d + 1
  | (_, d) => uptoBulk d + 1
 end
def uptoSmall : (H : Type) → List (DataW H) → Bool := fun _ ds => decide (uptoBulkAll ds ≤ 1048576)
def OpenSpec.upto (s : _root_.Go.ChangeSpec) : _root_.Go.OpenSpec := { _root_.Go.OpenSpec.ofChange s with cond := some uptoSmall }

/-- 'pacemakerlaw20.BucketTells', WHERE WHAT IT READS IS OF BULK AT MOST 1048576: true; the input reads as it did. -/
def bucketTellsUptoRow : OpenClaim := { program := "ytgmiggnlhcldlaa", sum := "3743562153baf1d5aedf8752a304a5b1d272141b9f0a3dfd5ce4b3bdbd11ac91", func := "pacemaker/pacemakerlaw20.BucketTells", spec := "bucketTells", inPlace := ["math/bits.Add64"], apart := false, narrowed := true }
def BucketTellsUptoSaid : Prop := bucketTellsUptoRow.holds Try.pinned (OpenSpec.upto bucketTellsSpec)

/-- 'pacemakerlaw20.BucketConforms', WHERE WHAT IT READS IS OF BULK AT MOST 1048576: true; the input reads as it did. -/
def bucketConformsUptoRow : OpenClaim := { program := "ytgmiggnlhcldlaa", sum := "3743562153baf1d5aedf8752a304a5b1d272141b9f0a3dfd5ce4b3bdbd11ac91", func := "pacemaker/pacemakerlaw20.BucketConforms", spec := "bucketConforms", inPlace := ["math/bits.Add64"], apart := false, narrowed := true }
def BucketConformsUptoSaid : Prop := bucketConformsUptoRow.holds Try.pinned (OpenSpec.upto bucketConformsSpec)

/-- 'pacemakerlaw20.BucketCut', WHERE WHAT IT READS IS OF BULK AT MOST 1048576: true; the input reads as it did. -/
def bucketCutUptoRow : OpenClaim := { program := "ytgmiggnlhcldlaa", sum := "3743562153baf1d5aedf8752a304a5b1d272141b9f0a3dfd5ce4b3bdbd11ac91", func := "pacemaker/pacemakerlaw20.BucketCut", spec := "bucketCut", inPlace := ["math/bits.Add64"], apart := false, narrowed := true }
def BucketCutUptoSaid : Prop := bucketCutUptoRow.holds Try.pinned (OpenSpec.upto bucketCutSpec)

/-- 'pacemakerlaw20.BucketWaits', WHERE WHAT IT READS IS OF BULK AT MOST 1048576: true; the input reads as it did. -/
def bucketWaitsUptoRow : OpenClaim := { program := "ytgmiggnlhcldlaa", sum := "3743562153baf1d5aedf8752a304a5b1d272141b9f0a3dfd5ce4b3bdbd11ac91", func := "pacemaker/pacemakerlaw20.BucketWaits", spec := "bucketWaits", inPlace := ["math/bits.Add64"], apart := false, narrowed := true }
def BucketWaitsUptoSaid : Prop := bucketWaitsUptoRow.holds Try.pinned (OpenSpec.upto bucketWaitsSpec)

/-- 'pacemakerlaw19.CodelPlays', WHERE WHAT IT READS IS OF BULK AT MOST 1048576: true; the input reads as it did. -/
def codelPlaysUptoRow : OpenClaim := { program := "ytgmiggnlhcldlaa", sum := "3743562153baf1d5aedf8752a304a5b1d272141b9f0a3dfd5ce4b3bdbd11ac91", func := "pacemaker/pacemakerlaw19.CodelPlays", spec := "codelPlays", inPlace := ["math/bits.Add64"], apart := false, narrowed := true }
def CodelPlaysUptoSaid : Prop := codelPlaysUptoRow.holds Try.pinned (OpenSpec.upto codelPlaysSpec)

/-- 'pacemakerlaw19.CodelLow', WHERE WHAT IT READS IS OF BULK AT MOST 1048576: true; the input reads as it did. -/
def codelLowUptoRow : OpenClaim := { program := "ytgmiggnlhcldlaa", sum := "3743562153baf1d5aedf8752a304a5b1d272141b9f0a3dfd5ce4b3bdbd11ac91", func := "pacemaker/pacemakerlaw19.CodelLow", spec := "codelLow", inPlace := ["math/bits.Add64"], apart := false, narrowed := true }
def CodelLowUptoSaid : Prop := codelLowUptoRow.holds Try.pinned (OpenSpec.upto codelLowSpec)

/-- 'pacemakerlaw19.CodelFirst', WHERE WHAT IT READS IS OF BULK AT MOST 1048576: true; the input reads as it did. -/
def codelFirstUptoRow : OpenClaim := { program := "ytgmiggnlhcldlaa", sum := "3743562153baf1d5aedf8752a304a5b1d272141b9f0a3dfd5ce4b3bdbd11ac91", func := "pacemaker/pacemakerlaw19.CodelFirst", spec := "codelFirst", inPlace := ["math/bits.Add64"], apart := false, narrowed := true }
def CodelFirstUptoSaid : Prop := codelFirstUptoRow.holds Try.pinned (OpenSpec.upto codelFirstSpec)

/-- 'pacemakerlaw18.RedPlays', WHERE WHAT IT READS IS OF BULK AT MOST 1048576: true; the input reads as it did. -/
def redPlaysUptoRow : OpenClaim := { program := "ytgmiggnlhcldlaa", sum := "3743562153baf1d5aedf8752a304a5b1d272141b9f0a3dfd5ce4b3bdbd11ac91", func := "pacemaker/pacemakerlaw18.RedPlays", spec := "redPlays", inPlace := ["math/bits.Add64"], named := ["math/bits.divideError", "math/bits.overflowError"], apart := false, narrowed := true }
def RedPlaysUptoSaid : Prop := redPlaysUptoRow.holds Try.pinned (OpenSpec.upto redPlaysSpec)

/-- 'pacemakerlaw18.RedEdges', WHERE WHAT IT READS IS OF BULK AT MOST 1048576: true; the input reads as it did. -/
def redEdgesUptoRow : OpenClaim := { program := "ytgmiggnlhcldlaa", sum := "3743562153baf1d5aedf8752a304a5b1d272141b9f0a3dfd5ce4b3bdbd11ac91", func := "pacemaker/pacemakerlaw18.RedEdges", spec := "redEdges", inPlace := ["math/bits.Add64"], named := ["math/bits.divideError", "math/bits.overflowError"], apart := false, narrowed := true }
def RedEdgesUptoSaid : Prop := redEdgesUptoRow.holds Try.pinned (OpenSpec.upto redEdgesSpec)

/-- 'pacemakerlaw18.RedEven', WHERE WHAT IT READS IS OF BULK AT MOST 1048576: true; the input reads as it did. -/
def redEvenUptoRow : OpenClaim := { program := "ytgmiggnlhcldlaa", sum := "3743562153baf1d5aedf8752a304a5b1d272141b9f0a3dfd5ce4b3bdbd11ac91", func := "pacemaker/pacemakerlaw18.RedEven", spec := "redEven", inPlace := ["math/bits.Add64"], named := ["math/bits.divideError", "math/bits.overflowError"], apart := false, narrowed := true }
def RedEvenUptoSaid : Prop := redEvenUptoRow.holds Try.pinned (OpenSpec.upto redEvenSpec)

end Rows
end Go.Proofs.Ytgmiggnlhcldlaa
