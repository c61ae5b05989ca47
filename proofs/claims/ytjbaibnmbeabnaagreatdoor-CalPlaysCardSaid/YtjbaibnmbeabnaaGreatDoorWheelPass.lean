/- wheel: pass. -/
import Derived.Test.YtjbaibnmbeabnaaGreatDoorWheelLay
import Derived.Test.YtjbaibnmbeabnaaGreatDoorWheelState
import Derived.Test.YtjbaibnmbeabnaaGreatDoorTz
import Derived.Deep.CutBlock
import Derived.Deep.DeepCutAuto
namespace Go.Proofs.YtjbaibnmbeabnaaGreatDoor.Wheel
open Go.RowKit Go.Proofs BigFrame Heap
set_option maxHeartbeats 4000000
set_option maxRecDepth 1000000
/-- The library's table, where the program's text lays it. -/
def Tab (w : World) : Prop := TabAt (Tryz.tz64_ren.g 1) Lib.deBruijn64tab w
theorem Tab.old {S : Nat → Prop} {w w' : World} (h : Tab w) (hu : Upd S w w') (hS : ¬ S (Tryz.tz64_ren.g 1)) : Tab w' := fun j hj => by
  have h1 := h j hj
  rw [hu.cell _ (cell_lt h1) hS]; exact h1
theorem tz_any (x : Nat) (hx : x < 2 ^ 64) (w : World) (hT : Tab w) :
    Calls Tryz.prog 87 #[.int .u64 x] w fun e w' => e = .returned (.int .i64 (Lib.ctz 64 x : Nat)) ∧ w' = w :=
  Any7.bits_TrailingZeros64 Tryz.tz64 x (by omega) w (fun _ => hT)
/-- The walk's facts on a word of which the lowest bit goes. -/
theorem low_bit {u : Nat} (h0 : u ≠ 0) (h : u < 2 ^ 64) : IntKind.u64.wrap ((u : Int) - 1) = ((u - 1 : Nat) : Int) ∧ bits .and .u64 (u : Int) ((u - 1 : Nat) : Int) = ((u - 2 ^ Lib.ctz 64 u : Nat) : Int) ∧ u - 2 ^ Lib.ctz 64 u < u ∧ u.testBit (Lib.ctz 64 u) = true ∧ Lib.ctz 64 u < 64 := by
  obtain ⟨h1, _, h3, h4, h5⟩ := ctz_bits h0 h
  have hp := Nat.pow_pos (n := Lib.ctz 64 u) (show 0 < 2 by omega)
  refine ⟨by rw [IntKind.wrap_u64]; omega, ?_, by omega, h1, h3⟩
  rw [bits_and_u64_nat u (u - 1) (by omega) (by omega), h4]
theorem put_low {vs : Nat → Value} {N o : Nat} (h : ∀ o, isRow o → ∀ k, (vs o).ownBlock = some k → k < N) : ∀ p, isRow p → ∀ k, (put vs o (.slice none 0 0) p).ownBlock = some k → k < N := fun p hp k hk => by
  by_cases e : p = o
  · subst e; rw [put_at] at hk; simp [Value.ownBlock] at hk
  · rw [put_ne _ _ e] at hk; exact h p hp k hk
end Go.Proofs.YtjbaibnmbeabnaaGreatDoor.Wheel
