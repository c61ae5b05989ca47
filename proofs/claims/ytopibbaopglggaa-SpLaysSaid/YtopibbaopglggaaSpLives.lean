/- The example of sppifo's laws. -/
import Derived.Test.YtopibbaopglggaaSpS4
namespace Go.Proofs.Ytopibbaopglggaa.Sp
open Go.RowKit Go.Proofs BigFrame
set_option maxHeartbeats 2000000
set_option maxRecDepth 100000
theorem lives (w : World) : Calls Try.prog 13 #[] w fun e w' => e = .returned (.bool true) ∧ Upd Nowhere w w' := by
  go_enter Try.func13, Try.ntmps13
  go_wp2_with fail
  refine (SpS.has_new w 9 2 (by omega) (by omega) (by omega) (by omega)).mono ?_
  rintro e w1 ⟨s, rfl, h1⟩
  go_wp2_with fail
  refine (SpS.has_push h1 (Upd.refl _ _) (by omega) 10 (by omega) ⟨#[97]⟩ 1 rfl).mono ?_
  rintro e w2 ⟨rfl, h2, _⟩
  go_wp2_with fail
  refine (SpS.has_push h2 (Upd.refl _ _) (by omega) 20 (by omega) ⟨#[98]⟩ 1 rfl).mono ?_
  rintro e w3 ⟨rfl, h3, _⟩
  go_wp2_with fail
  refine (SpS.has_push h3 (Upd.refl _ _) (by omega) 10 (by omega) ⟨#[99]⟩ 0 rfl).mono ?_
  rintro e w4 ⟨rfl, h4, _⟩
  go_wp2_with fail
  refine (SpS.has_pop h4 (Upd.refl _ _) 0 ((10 : Nat) : Int) ⟨#[99]⟩ [] (by omega) (fun j h => by omega) rfl).mono ?_
  rintro e w5 ⟨rfl, h5, _⟩
  go_wp2_with fail
  refine (SpS.has_len h5).mono ?_
  rintro e w6 ⟨rfl, rfl⟩
  go_wp2_with fail
  go_ret
  exact ⟨rfl, h5.upd⟩
end Go.Proofs.Ytopibbaopglggaa.Sp
