/- SatRises. -/
import Derived.Test.YteahlkdcemjbiaaSatLives
namespace Go.Proofs.Yteahlkdcemjbiaa.Sat
open Go.RowKit Go.Proofs BigFrame
open Wide (Gives)
open Bits (sat_add)
set_option maxHeartbeats 1000000
set_option maxRecDepth 100000
theorem rises_law (a b c d : Nat) (ha : a ≤ 18446744073709551615) (hb : b ≤ 18446744073709551615) (_hc : c ≤ 18446744073709551615) (hd : d ≤ 18446744073709551615) (w : World) :
    Calls Try.prog 10 #[.agg #[.int .u64 a, .int .u64 b, .int .u64 c, .int .u64 d]] w fun e w' => e = .returned (.bool true) ∧ Upd Nowhere w w' := by
  have ec : (c : Int) % 9223372036854775808 = ((c % 9223372036854775808 : Nat) : Int) := by omega
  have ed : (d : Int) % 9223372036854775808 = ((d % 9223372036854775808 : Nat) : Int) := by omega
  have hc' : c % 9223372036854775808 ≤ 18446744073709551615 := by omega
  have hd' : d % 9223372036854775808 ≤ 18446744073709551615 := by omega
  generalize c % 9223372036854775808 = c' at *
  generalize d % 9223372036854775808 = d' at *
  have H1 := fun u => Lib.hid (sat_add a c' u ha hc')
  have H2 := fun u => Lib.hid (sat_add b d' u hb hd')
  obtain ⟨E, hE⟩ : ∃ E, min (a + c') 18446744073709551615 = E := ⟨_, rfl⟩
  obtain ⟨F, hF⟩ : ∃ F, min (b + d') 18446744073709551615 = F := ⟨_, rfl⟩
  rw [hE] at H1
  rw [hF] at H2
  have haE : a ≤ E := by omega
  have hbF : b ≤ F := by omega
  have hEm : E ≤ 18446744073709551615 := by omega
  have hFm : F ≤ 18446744073709551615 := by omega
  have hm : a * b ≤ E * F := Nat.mul_le_mul haE hbF
  have hm2 : b * d ≤ F * d := Nat.mul_le_mul hbF (Nat.le_refl _)
  have H3 := fun u => Lib.hid (sat_add E F u hEm hFm)
  have H4 := fun u => Lib.hid (sat_add a b u ha hb)
  have H5 := fun u => Lib.hid (sat_mul E F hEm hFm u)
  have H6 := fun u => Lib.hid (sat_mul a b ha hb u)
  have H7 := fun u => Lib.hid (sat_muladd E F d hEm hFm hd u)
  have H8 := fun u => Lib.hid (sat_muladd a b d ha hb hd u)
  have H9 := fun u => Lib.hid (lives u)
  have t1 : min (a + b) 18446744073709551615 ≤ min (E + F) 18446744073709551615 := by omega
  have t2 : min (a * b) 18446744073709551615 ≤ min (E * F) 18446744073709551615 := by omega
  have t3 : min (a + b * d) 18446744073709551615 ≤ min (E + F * d) 18446744073709551615 := by omega
  clear haE hbF hm hm2 hE hF hEm hFm ha hb _hc hd hc' hd'
  generalize min (a + b) 18446744073709551615 = p1 at *
  generalize min (a * b) 18446744073709551615 = p2 at *
  generalize min (a + b * d) 18446744073709551615 = p3 at *
  generalize min (E + F) 18446744073709551615 = q1 at *
  generalize min (E * F) 18446744073709551615 = q2 at *
  generalize min (E + F * d) 18446744073709551615 = q3 at *
  go_enter Try.func10, Try.ntmps10
  go_wp2_with fail
  go_quiet (fail)
  go_wp2_with fail
  refine ((H1 _).out).mono ?_
  rintro e w' ⟨rfl, rfl⟩
  go_wp2_with fail
  refine ((H2 _).out).mono ?_
  rintro e w' ⟨rfl, rfl⟩
  go_wp2_with fail
  refine ((H3 _).out).mono ?_
  rintro e w' ⟨rfl, rfl⟩
  go_wp2_with fail
  refine ((H4 _).out).mono ?_
  rintro e w' ⟨rfl, rfl⟩
  go_wp2_with fail
  refine ((H5 _).out).mono ?_
  rintro e w' ⟨rfl, rfl⟩
  go_wp2_with fail
  refine ((H6 _).out).mono ?_
  rintro e w' ⟨rfl, rfl⟩
  go_wp2_with fail
  refine ((H7 _).out).mono ?_
  rintro e w' ⟨rfl, rfl⟩
  go_wp2_with fail
  refine ((H8 _).out).mono ?_
  rintro e w' ⟨rfl, rfl⟩
  go_wp2_with fail
  refine ((H9 _).out).mono ?_
  rintro e w9 ⟨rfl, u9⟩
  go_wp2_with fail
  go_ret
  exact ⟨rfl, (((Upd.refl _ _).alloc _).drewN _).trans u9 (fun _ _ h => h)⟩
end Go.Proofs.Yteahlkdcemjbiaa.Sat
