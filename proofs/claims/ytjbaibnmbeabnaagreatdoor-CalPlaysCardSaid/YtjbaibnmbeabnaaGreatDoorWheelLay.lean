/- wheel: lay. -/
import Derived.Test.YtjbaibnmbeabnaaGreatDoorWheelTake
import Derived.Deep.RegionLaw
namespace Go.Proofs.YtjbaibnmbeabnaaGreatDoor.Wheel
open Go.RowKit Go.Proofs BigFrame Heap
set_option maxHeartbeats 4000000
set_option maxRecDepth 1000000
abbrev Z : Value := .agg #[.int .u64 0, .int .u64 0, Value.int .i64 0]
/-- An entry, as a value. -/
abbrev V (e : En) : Value := .agg #[.int .u64 (e.1 : Nat), .int .u64 (e.2.1 : Nat), .int .i64 e.2.2]
theorem quiet_ex {P : Program} {f : FuncId} {args : Array Value} {w : World} {n : Nat} {v : Value}
    (h : Calls P f args (w.drewN n) fun e w' => e = .returned v ∧ ∃ m, w' = (w.drewN n).drewN m) : Calls P f args (w.drewN n) fun e w'' => e = .returned v ∧ ∃ m, w'' = w.drewN m :=
  h.mono fun _ _ ⟨he, m, hm⟩ => ⟨he, n + m, by rw [hm, World.drewN_drewN]⟩
theorem wp_world {P : Program} {c : Code} {Q : Exit → Act → World → Prop} {a : Act} {W : World} (h : ∀ w8, w8 = W → c.wp P Q a w8) : c.wp P Q a W := h _ rfl
end Go.Proofs.YtjbaibnmbeabnaaGreatDoor.Wheel
