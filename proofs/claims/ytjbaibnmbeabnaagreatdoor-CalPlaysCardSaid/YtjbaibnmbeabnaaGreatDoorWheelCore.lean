/- A wheel in memory: one block of 720 cells, and the lists that lie in it. No program in sight. -/
import Derived.Test.YtjbaibnmbeabnaaGreatDoorWheelPlain2
import Derived.Test.YtjbaibnmbeabnaaGreatDoorHeapCore
import Derived.Test.YtjbaibnmbeabnaaGreatDoorLaws
namespace Go.Proofs.YtjbaibnmbeabnaaGreatDoor.Wheel
open Go.RowKit Heap
/-- A wheel's own blocks. -/
def Own (b : Nat) (vs : Nat → Value) (k : Nat) : Prop := k = b ∨ ∃ o, isRow o ∧ (vs o).ownBlock = some k
/-- An entry's cells. -/
def ec (e : En) : List Value := [.int .u64 (e.1 : Nat), .int .u64 (e.2.1 : Nat), .int .i64 e.2.2]
abbrev es (l : List En) : List Value := ents (Value.int .i64) l
theorem es_snoc (l : List En) (e : En) : es (l ++ [e]) = es l ++ ec e := by unfold es; rw [ents_append]; rfl
section
variable {TW TE : TypeId} {A A' : Nat → Prop} {w0 w w' wx w1 : World} {b now came room n : Nat} {vs : Nat → Value} {qs : Nat → List En} {us : Nat → Nat}
/-- A step that writes into the wheel's block alone. -/
theorem upd_blk (a : Addr) (v : Value) : Upd (fun k => k = a.block) w (w.setCell a v) := Upd.setCell (S := fun k => k = a.block) (a := a) (Upd.refl _ _) (fun _ => rfl) v
end
end Go.Proofs.YtjbaibnmbeabnaaGreatDoor.Wheel
