/- Br1, one behind the other. -/
import Derived.Test.YtpgpjjkeginbbaaGreatDoorMtBr
import Derived.Test.YtpgpjjkeginbbaaGreatDoorMtSh11
namespace Go.Proofs.YtpgpjjkeginbbaaGreatDoor.Br
open Go.RowKit Go.Proofs BigFrame
open Rnk (FlsIn KF rowF flsIn_row)
open Gt (VC TCg cgs)
open Shm (made_blk made_set)
set_option maxHeartbeats 4000000
set_option maxRecDepth 1000000
set_option linter.unusedSimpArgs false
/-- Costs in memory. -/
def CostsIn (w : World) (ad : Option Addr) (l : List Nat) : Prop := ∀ (k x : Nat), l[k]? = some x → ∃ g o, ad = some ⟨g, o, none⟩ ∧ w.cell? ⟨g, o + k, none⟩ = some (.int .u64 x)
theorem CostsIn.old {w w' : World} {ad : Option Addr} {l : List Nat} (h : CostsIn w ad l) (hu : Upd Nowhere w w') : CostsIn w' ad l := fun k x hx => by
 obtain ⟨g, o, e, c⟩ := h k x hx
 exact ⟨g, o, e, cell_old hu c⟩
end Go.Proofs.YtpgpjjkeginbbaaGreatDoor.Br

