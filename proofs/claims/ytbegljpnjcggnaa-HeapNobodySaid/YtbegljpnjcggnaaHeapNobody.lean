/- HeapNobody. -/
import Derived.Test.YtbegljpnjcggnaaHeapLives
namespace Go.Proofs.Ytbegljpnjcggnaa.HeapI
open Go.RowKit Go.Proofs BigFrame Heap
set_option maxHeartbeats 1000000
set_option maxRecDepth 1000000
theorem all_nil (w : World) :
    Calls Try.prog 17 #[.pointer none] w fun e w' => e = .returned (.slice none 0 0) ∧ w = w' := by
  have HL := fun u => Lib.hid (len_nil u)
  go_enter Try.func17, Try.ntmps17
  go_wp2_with fail
  refine ((HL _).out).mono ?_
  rintro e w' ⟨rfl, rfl⟩
  go_wp2_with fail
  go_ret
  exact ⟨rfl, rfl⟩
theorem nobody_law (rank : Nat) (x : Int) (w : World) :
    Calls Try.prog 5 #[.int .u64 rank, .int .i64 x] w fun e w' => e = .returned (.bool true) ∧ Upd Nowhere w w' := by
  have HP := fun u => Lib.hid (peek_nil u)
  have HQ := fun u => Lib.hid (pop_nil u)
  have HU := fun u => Lib.hid (push_nil u rank x)
  have HL := fun u => Lib.hid (len_nil u)
  have HA := fun u => Lib.hid (all_nil u)
  have HV := fun u => Lib.hid (HeapS.lives u)
  go_enter Try.func5, Try.ntmps5
  go_wp2_with fail
  refine ((HP _).out).mono ?_
  rintro e w1 ⟨rfl, u1⟩
  go_wp2_with fail
  refine ((HQ _).out).mono ?_
  rintro e w2 ⟨rfl, u2⟩
  go_wp2_with fail
  refine ((HU _).out).mono ?_
  rintro e w3 ⟨rfl, u3⟩
  go_wp2_with fail
  refine ((HL _).out).mono ?_
  rintro e w4 ⟨rfl, rfl⟩
  go_wp2_with fail
  refine ((HA _).out).mono ?_
  rintro e w5 ⟨rfl, rfl⟩
  go_wp2_with fail
  refine ((HV _).out).mono ?_
  rintro e w6 ⟨rfl, u6⟩
  go_wp2_with fail
  go_ret
  exact ⟨rfl, ((u1.trans u2 (fun _ _ h => h)).trans u3 (fun _ _ h => h)).trans u6 (fun _ _ h => h)⟩
end Go.Proofs.Ytbegljpnjcggnaa.HeapI
