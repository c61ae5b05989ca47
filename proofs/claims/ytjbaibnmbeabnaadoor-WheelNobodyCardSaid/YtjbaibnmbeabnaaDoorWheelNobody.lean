/- wheel's law: one that nobody made. -/
import Derived.Test.YtjbaibnmbeabnaaDoorWheelLives
namespace Go.Proofs.YtjbaibnmbeabnaaDoor.Wheel
open Go.RowKit Go.Proofs BigFrame Heap
set_option maxHeartbeats 4000000
set_option maxRecDepth 1000000
theorem nobody_law (at' : Nat) (x : Int) (w : World) (hT : Tab w) (hG : Tryd.tz64_ren.g 1 < w.heap.size) : Calls Tryd.prog 7 #[.int .u64 at', .int .i64 x] w fun e w' => e = .returned (.bool true) ∧ Upd Nowhere w w' := by
  have HL := fun u (hu : Upd Nowhere w u) => Lib.hid (lives u (hT.old hu id) (Nat.lt_of_lt_of_le hG hu.size))
  go_enter Tryd.func7, Tryd.ntmps7
  go_wp2_with fail
  refine (next_nil w).mono ?_
  rintro e w' ⟨rfl, rfl⟩
  go_wp2_with fail
  refine (add_nil at' x w).mono ?_
  rintro e w' ⟨rfl, nq, rfl⟩
  have hU : Upd Nowhere w (w.drewN nq) := (Upd.refl _ _).drewN nq
  generalize w.drewN nq = w1 at *
  go_wp2_with fail
  refine (now_nil w1).mono ?_
  rintro e w' ⟨rfl, rfl⟩
  go_wp2_with fail
  refine (len_nil w1).mono ?_
  rintro e w' ⟨rfl, rfl⟩
  go_wp2_with fail
  refine (due_nil at' w1).mono ?_
  rintro e w' ⟨rfl, rfl⟩
  go_wp2_with fail
  refine ((HL w1 hU).out).mono ?_
  rintro e w2 ⟨rfl, u2⟩
  go_wp2_with fail
  go_ret
  exact ⟨rfl, hU.trans u2 (fun _ _ h => h)⟩
end Go.Proofs.YtjbaibnmbeabnaaDoor.Wheel
