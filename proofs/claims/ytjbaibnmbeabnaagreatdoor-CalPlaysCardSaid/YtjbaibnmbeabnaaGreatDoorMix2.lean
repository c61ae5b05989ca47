/- What stages pick of a region's operations, written out. No program in sight. -/
import Derived.Test.YtjbaibnmbeabnaaGreatDoorMix
namespace Go.Proofs.YtjbaibnmbeabnaaGreatDoor
open Go
theorem picked_flat (ops : Array Oper) (l : List Nat) : picked ops l = l.flatMap (fun i => (ops[i]?).toList) := by
  induction l with
  | nil => rfl
  | cons i r ih =>
    unfold picked at ih ⊢
    rw [List.filterMap_cons, List.flatMap_cons, ← ih]
    cases ops[i]? <;> rfl
end Go.Proofs.YtjbaibnmbeabnaaGreatDoor
