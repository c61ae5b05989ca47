/- RedEven: the law. -/
import Derived.Test.YtgmiggnlhcldlaaRedEven
namespace Go.Proofs.Ytgmiggnlhcldlaa.Red
open Go.RowKit Go.Proofs BigFrame
open Wide (Gives)
open Root (slo fol)
set_option maxHeartbeats 2000000
set_option maxRecDepth 100000
theorem even_law (A B P at_ : Nat) (s : Int) (hat : at_ ≤ 18446744073709551615) (w : World) : Calls Try.prog 12 #[.agg #[.int .u64 A, .int .u64 B, .int .u64 P, .int .i64 s], .int .u64 at_] w fun e w' => e = .returned (.bool true) ∧ Upd Nowhere w w' := by
  by_cases h : ok A B P s
  · obtain ⟨S, rfl⟩ : ∃ S : Nat, s = S := ⟨s.toNat, by have := h.2.2.2.2.1; omega⟩
    exact even_walk A B P at_ S h hat w
  · have HL := fun u => Lib.hid (lives u)
    have H1 := fun u => Lib.hid (may_no A B P s h u)
    clear h hat
    go_enter Try.func12, Try.ntmps12
    go_wp2_with fail
    refine ((H1 _).out).mono ?_
    rintro e w1 ⟨rfl, u1⟩
    go_wp2_with fail
    refine ((HL _).out).mono ?_
    rintro e w2 ⟨rfl, u2⟩
    go_wp2_with fail
    go_ret
    exact ⟨rfl, (((Upd.refl _ _).alloc _).trans u1 (fun _ _ h => h)).trans u2 (fun _ _ h => h)⟩
end Go.Proofs.Ytgmiggnlhcldlaa.Red
