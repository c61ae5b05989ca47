/-
  NARROWER THAN 'FOR EVERY INPUT', by the rows' own cells (each row's printed sentence says how): CalAlike: laid · CalLooks: laid · WheelSteps: laid · WheelPlays: laid · WheelNobody: laid · CalNobody: laid.
  DERIVED. THE GIVEN ROWS OF THIS SEAT. 6 by the template 'for every input the law returns true; each argument reads behind the call as it read before'; 0 by the template 'total and deterministic' (their statements: YtjbaibnmbeabnaaDoorTotals.lean).
  GIVEN WITH THE SEED: the statements are not yours to turn. If you find one false, say at which input.
  Laid BY PROGRAM, IN A SANDBOX (cutbox-rows.mjs): the forced cells as the released guide's own fill.sh prints them over the translation 321bc3d941199a40… (all of the seat's roots in one cut). By AI agents, Wed Nov 11 2026. No macro, syntax, notation, axiom, sorry.
-/
import Derived.Test.YtjbaibnmbeabnaaDoorChecked
import GoSem.Claim
import GoSem.ClaimJoined
import GoSem.ClaimMapViews
import Derived.JoinedTies
import Derived.KernelRfl
namespace Go.Proofs.YtjbaibnmbeabnaaDoor
/- THE CELL 'sum', in the pinned program and in every row, IS THE sha256 OF THE DUMP (.gsa) THAT YtjbaibnmbeabnaaDoorProg.lean LOADS. Nothing in Lean hashes anything: it is a label: what it is worth is what the hold of that sum in a sandbox is worth. -/
noncomputable def Tryd.pinned : Pinned := { name := "ytjbaibnmbeabnaadoor", sum := "321bc3d941199a40963bf195426c12accfd7a7ad9c42582c5ddc2241e5fc1300", checked := Tryd.checked }
namespace Rows
def none {H : Type} : Left H := { results := [], args := [] }

/- WHAT THE LISTED PACKAGE-LEVEL VARIABLES READ AS WHEN THE CALL BEGINS. Each datum BY PROGRAM (the guide's laid-datum.mjs) off the statement by which the dump's own 'gosem.cut.vars' lays the variable. In a bare row this is a premise. The card (YtjbaibnmbeabnaaDoorCards.lean) ties it to the program's text. -/
def laid_math_bits_deBruijn64tab {H : Type} : DataW H := .agg [.lit (.int .u8 0), .lit (.int .u8 1), .lit (.int .u8 56), .lit (.int .u8 2), .lit (.int .u8 57), .lit (.int .u8 49), .lit (.int .u8 28), .lit (.int .u8 3), .lit (.int .u8 61), .lit (.int .u8 58), .lit (.int .u8 42), .lit (.int .u8 50), .lit (.int .u8 38), .lit (.int .u8 29), .lit (.int .u8 17), .lit (.int .u8 4), .lit (.int .u8 62), .lit (.int .u8 47), .lit (.int .u8 59), .lit (.int .u8 36), .lit (.int .u8 45), .lit (.int .u8 43), .lit (.int .u8 51), .lit (.int .u8 22), .lit (.int .u8 53), .lit (.int .u8 39), .lit (.int .u8 33), .lit (.int .u8 30), .lit (.int .u8 24), .lit (.int .u8 18), .lit (.int .u8 12), .lit (.int .u8 5), .lit (.int .u8 63), .lit (.int .u8 55), .lit (.int .u8 48), .lit (.int .u8 27), .lit (.int .u8 60), .lit (.int .u8 41), .lit (.int .u8 37), .lit (.int .u8 16), .lit (.int .u8 46), .lit (.int .u8 35), .lit (.int .u8 44), .lit (.int .u8 21), .lit (.int .u8 52), .lit (.int .u8 32), .lit (.int .u8 23), .lit (.int .u8 11), .lit (.int .u8 54), .lit (.int .u8 26), .lit (.int .u8 40), .lit (.int .u8 15), .lit (.int .u8 34), .lit (.int .u8 20), .lit (.int .u8 31), .lit (.int .u8 10), .lit (.int .u8 25), .lit (.int .u8 14), .lit (.int .u8 19), .lit (.int .u8 9), .lit (.int .u8 13), .lit (.int .u8 8), .lit (.int .u8 7), .lit (.int .u8 6)]

/-- 'pacemakerlaw11.CalAlike': WHATEVER THE INPUT: true; the input reads as it did. -/
def calAlikeSpec : ChangeSpec := { name := "calAlike", fn := fun _ => fun
  | [d] => { results := [.lit (.bool true)], args := [d] }
  | _ => none }
def calAlikeRow : OpenClaim := { program := "ytjbaibnmbeabnaadoor", sum := "321bc3d941199a40963bf195426c12accfd7a7ad9c42582c5ddc2241e5fc1300", func := "pacemaker/pacemakerlaw11.CalAlike", spec := "calAlike", unfollowed := true, recurses := true, named := ["math/bits.deBruijn64tab"], apart := false, laid := [("math/bits.deBruijn64tab", laid_math_bits_deBruijn64tab)] }
def CalAlikeSaid : Prop := calAlikeRow.holds Tryd.pinned (OpenSpec.ofChange calAlikeSpec)

/-- ITS FALSE NEIGHBOUR: 'it returns false'. Refute it at one input. -/
def calAlikeWrong : ChangeSpec := { name := "calAlike", fn := fun _ => fun
  | [d] => { results := [.lit (.bool false)], args := [d] }
  | _ => none }
def CalAlikeWrongFalsely : Prop := calAlikeRow.holds Tryd.pinned (OpenSpec.ofChange calAlikeWrong)

/-- 'pacemakerlaw11.CalLooks': WHATEVER THE INPUT: true; the input reads as it did. -/
def calLooksSpec : ChangeSpec := { name := "calLooks", fn := fun _ => fun
  | [d1, d2, d3] => { results := [.lit (.bool true)], args := [d1, d2, d3] }
  | _ => none }
def calLooksRow : OpenClaim := { program := "ytjbaibnmbeabnaadoor", sum := "321bc3d941199a40963bf195426c12accfd7a7ad9c42582c5ddc2241e5fc1300", func := "pacemaker/pacemakerlaw11.CalLooks", spec := "calLooks", unfollowed := true, recurses := true, named := ["math/bits.deBruijn64tab"], apart := false, laid := [("math/bits.deBruijn64tab", laid_math_bits_deBruijn64tab)] }
def CalLooksSaid : Prop := calLooksRow.holds Tryd.pinned (OpenSpec.ofChange calLooksSpec)

/-- ITS FALSE NEIGHBOUR: 'it returns false'. Refute it at one input. -/
def calLooksWrong : ChangeSpec := { name := "calLooks", fn := fun _ => fun
  | [d1, d2, d3] => { results := [.lit (.bool false)], args := [d1, d2, d3] }
  | _ => none }
def CalLooksWrongFalsely : Prop := calLooksRow.holds Tryd.pinned (OpenSpec.ofChange calLooksWrong)

/-- 'pacemakerlaw28.WheelSteps': WHATEVER THE INPUT: true; the input reads as it did. -/
def wheelStepsSpec : ChangeSpec := { name := "wheelSteps", fn := fun _ => fun
  | [d1, d2, d3] => { results := [.lit (.bool true)], args := [d1, d2, d3] }
  | _ => none }
def wheelStepsRow : OpenClaim := { program := "ytjbaibnmbeabnaadoor", sum := "321bc3d941199a40963bf195426c12accfd7a7ad9c42582c5ddc2241e5fc1300", func := "pacemaker/pacemakerlaw28.WheelSteps", spec := "wheelSteps", unfollowed := true, recurses := true, named := ["math/bits.deBruijn64tab"], apart := false, laid := [("math/bits.deBruijn64tab", laid_math_bits_deBruijn64tab)] }
def WheelStepsSaid : Prop := wheelStepsRow.holds Tryd.pinned (OpenSpec.ofChange wheelStepsSpec)

/-- ITS FALSE NEIGHBOUR: 'it returns false'. Refute it at one input. -/
def wheelStepsWrong : ChangeSpec := { name := "wheelSteps", fn := fun _ => fun
  | [d1, d2, d3] => { results := [.lit (.bool false)], args := [d1, d2, d3] }
  | _ => none }
def WheelStepsWrongFalsely : Prop := wheelStepsRow.holds Tryd.pinned (OpenSpec.ofChange wheelStepsWrong)

/-- 'pacemakerlaw28.WheelPlays': WHATEVER THE INPUT: true; the input reads as it did. -/
def wheelPlaysSpec : ChangeSpec := { name := "wheelPlays", fn := fun _ => fun
  | [d1, d2] => { results := [.lit (.bool true)], args := [d1, d2] }
  | _ => none }
def wheelPlaysRow : OpenClaim := { program := "ytjbaibnmbeabnaadoor", sum := "321bc3d941199a40963bf195426c12accfd7a7ad9c42582c5ddc2241e5fc1300", func := "pacemaker/pacemakerlaw28.WheelPlays", spec := "wheelPlays", unfollowed := true, recurses := true, named := ["math/bits.deBruijn64tab"], apart := false, laid := [("math/bits.deBruijn64tab", laid_math_bits_deBruijn64tab)] }
def WheelPlaysSaid : Prop := wheelPlaysRow.holds Tryd.pinned (OpenSpec.ofChange wheelPlaysSpec)

/-- ITS FALSE NEIGHBOUR: 'it returns false'. Refute it at one input. -/
def wheelPlaysWrong : ChangeSpec := { name := "wheelPlays", fn := fun _ => fun
  | [d1, d2] => { results := [.lit (.bool false)], args := [d1, d2] }
  | _ => none }
def WheelPlaysWrongFalsely : Prop := wheelPlaysRow.holds Tryd.pinned (OpenSpec.ofChange wheelPlaysWrong)

/-- 'pacemakerlaw28.WheelNobody': WHATEVER THE INPUT: true; the input reads as it did. -/
def wheelNobodySpec : ChangeSpec := { name := "wheelNobody", fn := fun _ => fun
  | [d1, d2] => { results := [.lit (.bool true)], args := [d1, d2] }
  | _ => none }
def wheelNobodyRow : OpenClaim := { program := "ytjbaibnmbeabnaadoor", sum := "321bc3d941199a40963bf195426c12accfd7a7ad9c42582c5ddc2241e5fc1300", func := "pacemaker/pacemakerlaw28.WheelNobody", spec := "wheelNobody", unfollowed := true, recurses := true, named := ["math/bits.deBruijn64tab"], apart := false, laid := [("math/bits.deBruijn64tab", laid_math_bits_deBruijn64tab)] }
def WheelNobodySaid : Prop := wheelNobodyRow.holds Tryd.pinned (OpenSpec.ofChange wheelNobodySpec)

/-- ITS FALSE NEIGHBOUR: 'it returns false'. Refute it at one input. -/
def wheelNobodyWrong : ChangeSpec := { name := "wheelNobody", fn := fun _ => fun
  | [d1, d2] => { results := [.lit (.bool false)], args := [d1, d2] }
  | _ => none }
def WheelNobodyWrongFalsely : Prop := wheelNobodyRow.holds Tryd.pinned (OpenSpec.ofChange wheelNobodyWrong)

/-- 'pacemakerlaw11.CalNobody': WHATEVER THE INPUT: true; the input reads as it did. -/
def calNobodySpec : ChangeSpec := { name := "calNobody", fn := fun _ => fun
  | [d1, d2] => { results := [.lit (.bool true)], args := [d1, d2] }
  | _ => none }
def calNobodyRow : OpenClaim := { program := "ytjbaibnmbeabnaadoor", sum := "321bc3d941199a40963bf195426c12accfd7a7ad9c42582c5ddc2241e5fc1300", func := "pacemaker/pacemakerlaw11.CalNobody", spec := "calNobody", unfollowed := true, recurses := true, named := ["math/bits.deBruijn64tab"], apart := false, laid := [("math/bits.deBruijn64tab", laid_math_bits_deBruijn64tab)] }
def CalNobodySaid : Prop := calNobodyRow.holds Tryd.pinned (OpenSpec.ofChange calNobodySpec)

/-- ITS FALSE NEIGHBOUR: 'it returns false'. Refute it at one input. -/
def calNobodyWrong : ChangeSpec := { name := "calNobody", fn := fun _ => fun
  | [d1, d2] => { results := [.lit (.bool false)], args := [d1, d2] }
  | _ => none }
def CalNobodyWrongFalsely : Prop := calNobodyRow.holds Tryd.pinned (OpenSpec.ofChange calNobodyWrong)

/- THE SECOND FORM. 'bulk': how many values and letters a reading holds, each counted each time it is reached (what is shared counts as often as it is met; a slice's spare places count too). A statement '..UptoSaid' is the law's where the arguments, and the package variables that the reading takes, are together of bulk at most 1048576: NARROWER than '..Said'. Prove '..Said' where nothing that the law and all that it calls make is longer than what came in: it says more and counts as full. Else prove '..UptoSaid'. A law counts once. -/
mutual
def uptoBulk {H : Type} : DataW H → Nat
  | .lit (.string bytes) => bytes.length + 1
  | .lit _ => 1
  | .nil => 1
  | .ptr d => uptoBulk d + 1
  | .slice elems spare => uptoBulkAll elems + uptoBulkAll spare + 1
  | .agg parts => uptoBulkAll parts + 1
  | .iface _ d => uptoBulk d + 1
  | .map entries => uptoBulkEntries entries + 1
  | .held _ => 1
def uptoBulkAll {H : Type} : List (DataW H) → Nat
  | [] => 0
  | d :: r => uptoBulk d + uptoBulkAll r
def uptoBulkEntries {H : Type} : List (Lit × DataW H) → Nat
  | [] => 0
  | x :: r => uptoBulkEntry x + uptoBulkEntries r
def uptoBulkEntry {H : Type} : Lit × DataW H → Nat
  | (.string bytes, d) => bytes.length + uptoBulk d + 1
  | (_, d) => uptoBulk d + 1
 end
def uptoSmall : (H : Type) → List (DataW H) → Bool := fun _ ds => decide (uptoBulkAll ds ≤ 1048576)
def OpenSpec.upto (s : _root_.Go.ChangeSpec) : _root_.Go.OpenSpec := { _root_.Go.OpenSpec.ofChange s with cond := some uptoSmall }

/-- 'pacemakerlaw11.CalAlike', WHERE WHAT IT READS IS OF BULK AT MOST 1048576: true; the input reads as it did. -/
def calAlikeUptoRow : OpenClaim := { program := "ytjbaibnmbeabnaadoor", sum := "321bc3d941199a40963bf195426c12accfd7a7ad9c42582c5ddc2241e5fc1300", func := "pacemaker/pacemakerlaw11.CalAlike", spec := "calAlike", unfollowed := true, recurses := true, named := ["math/bits.deBruijn64tab"], apart := false, laid := [("math/bits.deBruijn64tab", laid_math_bits_deBruijn64tab)], narrowed := true }
def CalAlikeUptoSaid : Prop := calAlikeUptoRow.holds Tryd.pinned (OpenSpec.upto calAlikeSpec)

/-- 'pacemakerlaw11.CalLooks', WHERE WHAT IT READS IS OF BULK AT MOST 1048576: true; the input reads as it did. -/
def calLooksUptoRow : OpenClaim := { program := "ytjbaibnmbeabnaadoor", sum := "321bc3d941199a40963bf195426c12accfd7a7ad9c42582c5ddc2241e5fc1300", func := "pacemaker/pacemakerlaw11.CalLooks", spec := "calLooks", unfollowed := true, recurses := true, named := ["math/bits.deBruijn64tab"], apart := false, laid := [("math/bits.deBruijn64tab", laid_math_bits_deBruijn64tab)], narrowed := true }
def CalLooksUptoSaid : Prop := calLooksUptoRow.holds Tryd.pinned (OpenSpec.upto calLooksSpec)

/-- 'pacemakerlaw28.WheelSteps', WHERE WHAT IT READS IS OF BULK AT MOST 1048576: true; the input reads as it did. -/
def wheelStepsUptoRow : OpenClaim := { program := "ytjbaibnmbeabnaadoor", sum := "321bc3d941199a40963bf195426c12accfd7a7ad9c42582c5ddc2241e5fc1300", func := "pacemaker/pacemakerlaw28.WheelSteps", spec := "wheelSteps", unfollowed := true, recurses := true, named := ["math/bits.deBruijn64tab"], apart := false, laid := [("math/bits.deBruijn64tab", laid_math_bits_deBruijn64tab)], narrowed := true }
def WheelStepsUptoSaid : Prop := wheelStepsUptoRow.holds Tryd.pinned (OpenSpec.upto wheelStepsSpec)

/-- 'pacemakerlaw28.WheelPlays', WHERE WHAT IT READS IS OF BULK AT MOST 1048576: true; the input reads as it did. -/
def wheelPlaysUptoRow : OpenClaim := { program := "ytjbaibnmbeabnaadoor", sum := "321bc3d941199a40963bf195426c12accfd7a7ad9c42582c5ddc2241e5fc1300", func := "pacemaker/pacemakerlaw28.WheelPlays", spec := "wheelPlays", unfollowed := true, recurses := true, named := ["math/bits.deBruijn64tab"], apart := false, laid := [("math/bits.deBruijn64tab", laid_math_bits_deBruijn64tab)], narrowed := true }
def WheelPlaysUptoSaid : Prop := wheelPlaysUptoRow.holds Tryd.pinned (OpenSpec.upto wheelPlaysSpec)

/-- 'pacemakerlaw28.WheelNobody', WHERE WHAT IT READS IS OF BULK AT MOST 1048576: true; the input reads as it did. -/
def wheelNobodyUptoRow : OpenClaim := { program := "ytjbaibnmbeabnaadoor", sum := "321bc3d941199a40963bf195426c12accfd7a7ad9c42582c5ddc2241e5fc1300", func := "pacemaker/pacemakerlaw28.WheelNobody", spec := "wheelNobody", unfollowed := true, recurses := true, named := ["math/bits.deBruijn64tab"], apart := false, laid := [("math/bits.deBruijn64tab", laid_math_bits_deBruijn64tab)], narrowed := true }
def WheelNobodyUptoSaid : Prop := wheelNobodyUptoRow.holds Tryd.pinned (OpenSpec.upto wheelNobodySpec)

/-- 'pacemakerlaw11.CalNobody', WHERE WHAT IT READS IS OF BULK AT MOST 1048576: true; the input reads as it did. -/
def calNobodyUptoRow : OpenClaim := { program := "ytjbaibnmbeabnaadoor", sum := "321bc3d941199a40963bf195426c12accfd7a7ad9c42582c5ddc2241e5fc1300", func := "pacemaker/pacemakerlaw11.CalNobody", spec := "calNobody", unfollowed := true, recurses := true, named := ["math/bits.deBruijn64tab"], apart := false, laid := [("math/bits.deBruijn64tab", laid_math_bits_deBruijn64tab)], narrowed := true }
def CalNobodyUptoSaid : Prop := calNobodyUptoRow.holds Tryd.pinned (OpenSpec.upto calNobodySpec)

end Rows
end Go.Proofs.YtjbaibnmbeabnaaDoor
