/-
  No cell of these rows narrows 'for every input' (looked for: loops, veiled, ifaces, maps, wideKeys, modest, calm, conditions, laid).
  DERIVED. THE GIVEN ROWS OF THIS SEAT. 10 by the template 'for every input the law returns true; each argument reads behind the call as it read before'; 0 by the template 'total and deterministic' (their statements: YteahlkdcemjbiaaTotals.lean).
  GIVEN WITH THE SEED: the statements are not yours to turn. If you find one false, say at which input.
  Laid BY PROGRAM, IN A SANDBOX (cutbox-rows.mjs): the forced cells as the released guide's own fill.sh prints them over the translation 50591f7a9be96b7a… (all of the seat's roots in one cut). By AI agents, Wed Nov 11 2026. No macro, syntax, notation, axiom, sorry.
-/
import Derived.Test.YteahlkdcemjbiaaChecked
import GoSem.Claim
import GoSem.ClaimJoined
import GoSem.ClaimMapViews
import Derived.JoinedTies
import Derived.KernelRfl
namespace Go.Proofs.Yteahlkdcemjbiaa
/- THE CELL 'sum', in the pinned program and in every row, IS THE sha256 OF THE DUMP (.gsa) THAT YteahlkdcemjbiaaProg.lean LOADS. Nothing in Lean hashes anything: it is a label: what it is worth is what the hold of that sum in a sandbox is worth. -/
noncomputable def Try.pinned : Pinned := { name := "yteahlkdcemjbiaa", sum := "50591f7a9be96b7a00d7ed2a2b2bec65a2ac2898badb109b6ea648d616cce6ba", checked := Try.checked }
namespace Rows
def none {H : Type} : Left H := { results := [], args := [] }

/-- 'pacemakerlaw02.RootTells': WHATEVER THE INPUT: true; the input reads as it did. -/
def rootTellsSpec : ChangeSpec := { name := "rootTells", fn := fun _ => fun
  | [d1, d2, d3] => { results := [.lit (.bool true)], args := [d1, d2, d3] }
  | _ => none }
def rootTellsRow : OpenClaim := { program := "yteahlkdcemjbiaa", sum := "50591f7a9be96b7a00d7ed2a2b2bec65a2ac2898badb109b6ea648d616cce6ba", func := "pacemaker/pacemakerlaw02.RootTells", spec := "rootTells", inPlace := ["math/bits.Add64"], apart := false }
def RootTellsSaid : Prop := rootTellsRow.holds Try.pinned (OpenSpec.ofChange rootTellsSpec)

/-- ITS FALSE NEIGHBOUR: 'it returns false'. Refute it at one input. -/
def rootTellsWrong : ChangeSpec := { name := "rootTells", fn := fun _ => fun
  | [d1, d2, d3] => { results := [.lit (.bool false)], args := [d1, d2, d3] }
  | _ => none }
def RootTellsWrongFalsely : Prop := rootTellsRow.holds Try.pinned (OpenSpec.ofChange rootTellsWrong)

/-- 'pacemakerlaw02.RootBetween': WHATEVER THE INPUT: true; the input reads as it did. -/
def rootBetweenSpec : ChangeSpec := { name := "rootBetween", fn := fun _ => fun
  | [d] => { results := [.lit (.bool true)], args := [d] }
  | _ => none }
def rootBetweenRow : OpenClaim := { program := "yteahlkdcemjbiaa", sum := "50591f7a9be96b7a00d7ed2a2b2bec65a2ac2898badb109b6ea648d616cce6ba", func := "pacemaker/pacemakerlaw02.RootBetween", spec := "rootBetween", inPlace := ["math/bits.Add64"], apart := false }
def RootBetweenSaid : Prop := rootBetweenRow.holds Try.pinned (OpenSpec.ofChange rootBetweenSpec)

/-- ITS FALSE NEIGHBOUR: 'it returns false'. Refute it at one input. -/
def rootBetweenWrong : ChangeSpec := { name := "rootBetween", fn := fun _ => fun
  | [d] => { results := [.lit (.bool false)], args := [d] }
  | _ => none }
def RootBetweenWrongFalsely : Prop := rootBetweenRow.holds Try.pinned (OpenSpec.ofChange rootBetweenWrong)

/-- 'pacemakerlaw02.RootRises': WHATEVER THE INPUT: true; the input reads as it did. -/
def rootRisesSpec : ChangeSpec := { name := "rootRises", fn := fun _ => fun
  | [d] => { results := [.lit (.bool true)], args := [d] }
  | _ => none }
def rootRisesRow : OpenClaim := { program := "yteahlkdcemjbiaa", sum := "50591f7a9be96b7a00d7ed2a2b2bec65a2ac2898badb109b6ea648d616cce6ba", func := "pacemaker/pacemakerlaw02.RootRises", spec := "rootRises", inPlace := ["math/bits.Add64"], apart := false }
def RootRisesSaid : Prop := rootRisesRow.holds Try.pinned (OpenSpec.ofChange rootRisesSpec)

/-- ITS FALSE NEIGHBOUR: 'it returns false'. Refute it at one input. -/
def rootRisesWrong : ChangeSpec := { name := "rootRises", fn := fun _ => fun
  | [d] => { results := [.lit (.bool false)], args := [d] }
  | _ => none }
def RootRisesWrongFalsely : Prop := rootRisesRow.holds Try.pinned (OpenSpec.ofChange rootRisesWrong)

/-- 'pacemakerlaw02.RootStays': WHATEVER THE INPUT: true; the input reads as it did. -/
def rootStaysSpec : ChangeSpec := { name := "rootStays", fn := fun _ => fun
  | [d1, d2, d3] => { results := [.lit (.bool true)], args := [d1, d2, d3] }
  | _ => none }
def rootStaysRow : OpenClaim := { program := "yteahlkdcemjbiaa", sum := "50591f7a9be96b7a00d7ed2a2b2bec65a2ac2898badb109b6ea648d616cce6ba", func := "pacemaker/pacemakerlaw02.RootStays", spec := "rootStays", inPlace := ["math/bits.Add64"], apart := false }
def RootStaysSaid : Prop := rootStaysRow.holds Try.pinned (OpenSpec.ofChange rootStaysSpec)

/-- ITS FALSE NEIGHBOUR: 'it returns false'. Refute it at one input. -/
def rootStaysWrong : ChangeSpec := { name := "rootStays", fn := fun _ => fun
  | [d1, d2, d3] => { results := [.lit (.bool false)], args := [d1, d2, d3] }
  | _ => none }
def RootStaysWrongFalsely : Prop := rootStaysRow.holds Try.pinned (OpenSpec.ofChange rootStaysWrong)

/-- 'pacemakerlaw01.SatSums': WHATEVER THE INPUT: true; the input reads as it did. -/
def satSumsSpec : ChangeSpec := { name := "satSums", fn := fun _ => fun
  | [d] => { results := [.lit (.bool true)], args := [d] }
  | _ => none }
def satSumsRow : OpenClaim := { program := "yteahlkdcemjbiaa", sum := "50591f7a9be96b7a00d7ed2a2b2bec65a2ac2898badb109b6ea648d616cce6ba", func := "pacemaker/pacemakerlaw01.SatSums", spec := "satSums", inPlace := ["math/bits.Add64"], named := ["math/bits.divideError", "math/bits.overflowError"], apart := false }
def SatSumsSaid : Prop := satSumsRow.holds Try.pinned (OpenSpec.ofChange satSumsSpec)

/-- ITS FALSE NEIGHBOUR: 'it returns false'. Refute it at one input. -/
def satSumsWrong : ChangeSpec := { name := "satSums", fn := fun _ => fun
  | [d] => { results := [.lit (.bool false)], args := [d] }
  | _ => none }
def SatSumsWrongFalsely : Prop := satSumsRow.holds Try.pinned (OpenSpec.ofChange satSumsWrong)

/-- 'pacemakerlaw01.SatDivides': WHATEVER THE INPUT: true; the input reads as it did. -/
def satDividesSpec : ChangeSpec := { name := "satDivides", fn := fun _ => fun
  | [d1, d2, d3] => { results := [.lit (.bool true)], args := [d1, d2, d3] }
  | _ => none }
def satDividesRow : OpenClaim := { program := "yteahlkdcemjbiaa", sum := "50591f7a9be96b7a00d7ed2a2b2bec65a2ac2898badb109b6ea648d616cce6ba", func := "pacemaker/pacemakerlaw01.SatDivides", spec := "satDivides", inPlace := ["math/bits.Add64"], named := ["math/bits.divideError", "math/bits.overflowError"], apart := false }
def SatDividesSaid : Prop := satDividesRow.holds Try.pinned (OpenSpec.ofChange satDividesSpec)

/-- ITS FALSE NEIGHBOUR: 'it returns false'. Refute it at one input. -/
def satDividesWrong : ChangeSpec := { name := "satDivides", fn := fun _ => fun
  | [d1, d2, d3] => { results := [.lit (.bool false)], args := [d1, d2, d3] }
  | _ => none }
def SatDividesWrongFalsely : Prop := satDividesRow.holds Try.pinned (OpenSpec.ofChange satDividesWrong)

/-- 'pacemakerlaw01.SatUnder': WHATEVER THE INPUT: true; the input reads as it did. -/
def satUnderSpec : ChangeSpec := { name := "satUnder", fn := fun _ => fun
  | [d] => { results := [.lit (.bool true)], args := [d] }
  | _ => none }
def satUnderRow : OpenClaim := { program := "yteahlkdcemjbiaa", sum := "50591f7a9be96b7a00d7ed2a2b2bec65a2ac2898badb109b6ea648d616cce6ba", func := "pacemaker/pacemakerlaw01.SatUnder", spec := "satUnder", inPlace := ["math/bits.Add64"], named := ["math/bits.divideError", "math/bits.overflowError"], apart := false }
def SatUnderSaid : Prop := satUnderRow.holds Try.pinned (OpenSpec.ofChange satUnderSpec)

/-- ITS FALSE NEIGHBOUR: 'it returns false'. Refute it at one input. -/
def satUnderWrong : ChangeSpec := { name := "satUnder", fn := fun _ => fun
  | [d] => { results := [.lit (.bool false)], args := [d] }
  | _ => none }
def SatUnderWrongFalsely : Prop := satUnderRow.holds Try.pinned (OpenSpec.ofChange satUnderWrong)

/-- 'pacemakerlaw01.SatRises': WHATEVER THE INPUT: true; the input reads as it did. -/
def satRisesSpec : ChangeSpec := { name := "satRises", fn := fun _ => fun
  | [d] => { results := [.lit (.bool true)], args := [d] }
  | _ => none }
def satRisesRow : OpenClaim := { program := "yteahlkdcemjbiaa", sum := "50591f7a9be96b7a00d7ed2a2b2bec65a2ac2898badb109b6ea648d616cce6ba", func := "pacemaker/pacemakerlaw01.SatRises", spec := "satRises", inPlace := ["math/bits.Add64"], named := ["math/bits.divideError", "math/bits.overflowError"], apart := false }
def SatRisesSaid : Prop := satRisesRow.holds Try.pinned (OpenSpec.ofChange satRisesSpec)

/-- ITS FALSE NEIGHBOUR: 'it returns false'. Refute it at one input. -/
def satRisesWrong : ChangeSpec := { name := "satRises", fn := fun _ => fun
  | [d] => { results := [.lit (.bool false)], args := [d] }
  | _ => none }
def SatRisesWrongFalsely : Prop := satRisesRow.holds Try.pinned (OpenSpec.ofChange satRisesWrong)

/-- 'pacemakerlaw01.SatBack': WHATEVER THE INPUT: true; the input reads as it did. -/
def satBackSpec : ChangeSpec := { name := "satBack", fn := fun _ => fun
  | [d1, d2] => { results := [.lit (.bool true)], args := [d1, d2] }
  | _ => none }
def satBackRow : OpenClaim := { program := "yteahlkdcemjbiaa", sum := "50591f7a9be96b7a00d7ed2a2b2bec65a2ac2898badb109b6ea648d616cce6ba", func := "pacemaker/pacemakerlaw01.SatBack", spec := "satBack", inPlace := ["math/bits.Add64"], named := ["math/bits.divideError", "math/bits.overflowError"], apart := false }
def SatBackSaid : Prop := satBackRow.holds Try.pinned (OpenSpec.ofChange satBackSpec)

/-- ITS FALSE NEIGHBOUR: 'it returns false'. Refute it at one input. -/
def satBackWrong : ChangeSpec := { name := "satBack", fn := fun _ => fun
  | [d1, d2] => { results := [.lit (.bool false)], args := [d1, d2] }
  | _ => none }
def SatBackWrongFalsely : Prop := satBackRow.holds Try.pinned (OpenSpec.ofChange satBackWrong)

/-- 'pacemakerlaw01.SatAdds': WHATEVER THE INPUT: true; the input reads as it did. -/
def satAddsSpec : ChangeSpec := { name := "satAdds", fn := fun _ => fun
  | [d1, d2, d3] => { results := [.lit (.bool true)], args := [d1, d2, d3] }
  | _ => none }
def satAddsRow : OpenClaim := { program := "yteahlkdcemjbiaa", sum := "50591f7a9be96b7a00d7ed2a2b2bec65a2ac2898badb109b6ea648d616cce6ba", func := "pacemaker/pacemakerlaw01.SatAdds", spec := "satAdds", inPlace := ["math/bits.Add64"], named := ["math/bits.divideError", "math/bits.overflowError"], apart := false }
def SatAddsSaid : Prop := satAddsRow.holds Try.pinned (OpenSpec.ofChange satAddsSpec)

/-- ITS FALSE NEIGHBOUR: 'it returns false'. Refute it at one input. -/
def satAddsWrong : ChangeSpec := { name := "satAdds", fn := fun _ => fun
  | [d1, d2, d3] => { results := [.lit (.bool false)], args := [d1, d2, d3] }
  | _ => none }
def SatAddsWrongFalsely : Prop := satAddsRow.holds Try.pinned (OpenSpec.ofChange satAddsWrong)

/- THE SECOND FORM. 'bulk': how many values and letters a reading holds, each counted each time it is reached (what is shared counts as often as it is met; a slice's spare places count too). A statement '..UptoSaid' is the law's where the arguments, and the package variables that the reading takes, are together of bulk at most 1048576: NARROWER than '..Said'. Prove '..Said' where nothing that the law and all that it calls make is longer than what came in: it says more and counts as full. Else prove '..UptoSaid'. A law counts once. -/
mutual
def uptoBulk {H : Type} : DataW H → Nat
  | .lit (.string bytes) => bytes.length + 1
  | .lit _ => 1
  | .nil => 1
  | .ptr d => uptoBulk d + 1
  | .slice elems spare => uptoBulkAll elems + uptoBulkAll spare + 1
  | .agg parts => uptoBulkAll parts + 1
  | .iface _ d => uptoBulk d + 1
  | .map entries => uptoBulkEntries entries + 1
  | .held _ => 1
def uptoBulkAll {H : Type} : List (DataW H) → Nat
  | [] => 0
  | d :: r => uptoBulk d + uptoBulkAll r
def uptoBulkEntries {H : Type} : List (Lit × DataW H) → Nat
  | [] => 0
  | x :: r => uptoBulkEntry x + uptoBulkEntries r
def uptoBulkEntry {H : Type} : Lit × DataW H → Nat
  | (.string bytes, d) => bytes.length + uptoBulk d + 1
  | (_, d) => uptoBulk d + 1
 end
def uptoSmall : (H : Type) → List (DataW H) → Bool := fun _ ds => decide (uptoBulkAll ds ≤ 1048576)
def OpenSpec.upto (s : _root_.Go.ChangeSpec) : _root_.Go.OpenSpec := { _root_.Go.OpenSpec.ofChange s with cond := some uptoSmall }

/-- 'pacemakerlaw02.RootTells', WHERE WHAT IT READS IS OF BULK AT MOST 1048576: true; the input reads as it did. -/
def rootTellsUptoRow : OpenClaim := { program := "yteahlkdcemjbiaa", sum := "50591f7a9be96b7a00d7ed2a2b2bec65a2ac2898badb109b6ea648d616cce6ba", func := "pacemaker/pacemakerlaw02.RootTells", spec := "rootTells", inPlace := ["math/bits.Add64"], apart := false, narrowed := true }
def RootTellsUptoSaid : Prop := rootTellsUptoRow.holds Try.pinned (OpenSpec.upto rootTellsSpec)

/-- 'pacemakerlaw02.RootBetween', WHERE WHAT IT READS IS OF BULK AT MOST 1048576: true; the input reads as it did. -/
def rootBetweenUptoRow : OpenClaim := { program := "yteahlkdcemjbiaa", sum := "50591f7a9be96b7a00d7ed2a2b2bec65a2ac2898badb109b6ea648d616cce6ba", func := "pacemaker/pacemakerlaw02.RootBetween", spec := "rootBetween", inPlace := ["math/bits.Add64"], apart := false, narrowed := true }
def RootBetweenUptoSaid : Prop := rootBetweenUptoRow.holds Try.pinned (OpenSpec.upto rootBetweenSpec)

/-- 'pacemakerlaw02.RootRises', WHERE WHAT IT READS IS OF BULK AT MOST 1048576: true; the input reads as it did. -/
def rootRisesUptoRow : OpenClaim := { program := "yteahlkdcemjbiaa", sum := "50591f7a9be96b7a00d7ed2a2b2bec65a2ac2898badb109b6ea648d616cce6ba", func := "pacemaker/pacemakerlaw02.RootRises", spec := "rootRises", inPlace := ["math/bits.Add64"], apart := false, narrowed := true }
def RootRisesUptoSaid : Prop := rootRisesUptoRow.holds Try.pinned (OpenSpec.upto rootRisesSpec)

/-- 'pacemakerlaw02.RootStays', WHERE WHAT IT READS IS OF BULK AT MOST 1048576: true; the input reads as it did. -/
def rootStaysUptoRow : OpenClaim := { program := "yteahlkdcemjbiaa", sum := "50591f7a9be96b7a00d7ed2a2b2bec65a2ac2898badb109b6ea648d616cce6ba", func := "pacemaker/pacemakerlaw02.RootStays", spec := "rootStays", inPlace := ["math/bits.Add64"], apart := false, narrowed := true }
def RootStaysUptoSaid : Prop := rootStaysUptoRow.holds Try.pinned (OpenSpec.upto rootStaysSpec)

/-- 'pacemakerlaw01.SatSums', WHERE WHAT IT READS IS OF BULK AT MOST 1048576: true; the input reads as it did. -/
def satSumsUptoRow : OpenClaim := { program := "yteahlkdcemjbiaa", sum := "50591f7a9be96b7a00d7ed2a2b2bec65a2ac2898badb109b6ea648d616cce6ba", func := "pacemaker/pacemakerlaw01.SatSums", spec := "satSums", inPlace := ["math/bits.Add64"], named := ["math/bits.divideError", "math/bits.overflowError"], apart := false, narrowed := true }
def SatSumsUptoSaid : Prop := satSumsUptoRow.holds Try.pinned (OpenSpec.upto satSumsSpec)

/-- 'pacemakerlaw01.SatDivides', WHERE WHAT IT READS IS OF BULK AT MOST 1048576: true; the input reads as it did. -/
def satDividesUptoRow : OpenClaim := { program := "yteahlkdcemjbiaa", sum := "50591f7a9be96b7a00d7ed2a2b2bec65a2ac2898badb109b6ea648d616cce6ba", func := "pacemaker/pacemakerlaw01.SatDivides", spec := "satDivides", inPlace := ["math/bits.Add64"], named := ["math/bits.divideError", "math/bits.overflowError"], apart := false, narrowed := true }
def SatDividesUptoSaid : Prop := satDividesUptoRow.holds Try.pinned (OpenSpec.upto satDividesSpec)

/-- 'pacemakerlaw01.SatUnder', WHERE WHAT IT READS IS OF BULK AT MOST 1048576: true; the input reads as it did. -/
def satUnderUptoRow : OpenClaim := { program := "yteahlkdcemjbiaa", sum := "50591f7a9be96b7a00d7ed2a2b2bec65a2ac2898badb109b6ea648d616cce6ba", func := "pacemaker/pacemakerlaw01.SatUnder", spec := "satUnder", inPlace := ["math/bits.Add64"], named := ["math/bits.divideError", "math/bits.overflowError"], apart := false, narrowed := true }
def SatUnderUptoSaid : Prop := satUnderUptoRow.holds Try.pinned (OpenSpec.upto satUnderSpec)

/-- 'pacemakerlaw01.SatRises', WHERE WHAT IT READS IS OF BULK AT MOST 1048576: true; the input reads as it did. -/
def satRisesUptoRow : OpenClaim := { program := "yteahlkdcemjbiaa", sum := "50591f7a9be96b7a00d7ed2a2b2bec65a2ac2898badb109b6ea648d616cce6ba", func := "pacemaker/pacemakerlaw01.SatRises", spec := "satRises", inPlace := ["math/bits.Add64"], named := ["math/bits.divideError", "math/bits.overflowError"], apart := false, narrowed := true }
def SatRisesUptoSaid : Prop := satRisesUptoRow.holds Try.pinned (OpenSpec.upto satRisesSpec)

/-- 'pacemakerlaw01.SatBack', WHERE WHAT IT READS IS OF BULK AT MOST 1048576: true; the input reads as it did. -/
def satBackUptoRow : OpenClaim := { program := "yteahlkdcemjbiaa", sum := "50591f7a9be96b7a00d7ed2a2b2bec65a2ac2898badb109b6ea648d616cce6ba", func := "pacemaker/pacemakerlaw01.SatBack", spec := "satBack", inPlace := ["math/bits.Add64"], named := ["math/bits.divideError", "math/bits.overflowError"], apart := false, narrowed := true }
def SatBackUptoSaid : Prop := satBackUptoRow.holds Try.pinned (OpenSpec.upto satBackSpec)

/-- 'pacemakerlaw01.SatAdds', WHERE WHAT IT READS IS OF BULK AT MOST 1048576: true; the input reads as it did. -/
def satAddsUptoRow : OpenClaim := { program := "yteahlkdcemjbiaa", sum := "50591f7a9be96b7a00d7ed2a2b2bec65a2ac2898badb109b6ea648d616cce6ba", func := "pacemaker/pacemakerlaw01.SatAdds", spec := "satAdds", inPlace := ["math/bits.Add64"], named := ["math/bits.divideError", "math/bits.overflowError"], apart := false, narrowed := true }
def SatAddsUptoSaid : Prop := satAddsUptoRow.holds Try.pinned (OpenSpec.upto satAddsSpec)

end Rows
end Go.Proofs.Yteahlkdcemjbiaa
