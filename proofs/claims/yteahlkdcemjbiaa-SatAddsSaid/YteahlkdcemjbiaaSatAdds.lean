/- SatAdds. -/
import Derived.Test.YteahlkdcemjbiaaSatLives
namespace Go.Proofs.Yteahlkdcemjbiaa.Sat
open Go.RowKit Go.Proofs BigFrame
open Wide (Gives)
open Bits (sat_add)
set_option maxHeartbeats 1000000
set_option maxRecDepth 100000
theorem adds_law (a b c : Nat) (ha : a ≤ 18446744073709551615) (hb : b ≤ 18446744073709551615) (hc : c ≤ 18446744073709551615) (w : World) :
    Calls Try.prog 12 #[.int .u64 a, .int .u64 b, .int .u64 c] w fun e w' => e = .returned (.bool true) ∧ Upd Nowhere w w' := by
  have ec : (c : Int) % 100 = ((c % 100 : Nat) : Int) := by omega
  have en : wrap64 ((c % 100 : Nat) : Int) = ((c % 100 : Nat) : Int) := IntWalk.wrap64_in _ ⟨by omega, by omega⟩
  have hx : -9223372036854775808 ≤ wrap64 (a : Int) ∧ wrap64 (a : Int) ≤ 9223372036854775807 := by unfold wrap64; omega
  obtain ⟨hx1, hx2⟩ := hx
  have H1 := fun u => Lib.hid (sat_add a b u ha hb)
  have H2 := fun u => Lib.hid (ref_add a b ha hb u)
  have H3 := fun u => Lib.hid (sat_sub a b ha hb u)
  have H4 := fun u => Lib.hid (ref_sub a b ha hb u)
  have H5 := fun u => Lib.hid (sat_mul a b ha hb u)
  have H6 := fun u => Lib.hid (ref_mul a b ha hb u)
  have H7 := fun u => Lib.hid (sat_muladd a b c ha hb hc u)
  have H8 := fun u => Lib.hid (ref_muladd a b c ha hb hc u)
  have H9 := fun u => Lib.hid (sat_shift a ((c % 100 : Nat) : Int) ha (by omega) (by omega) u)
  have H10 := fun u => Lib.hid (ref_shift a ((c % 100 : Nat) : Int) ha (by omega) (by omega) u)
  have H11 := fun u => Lib.hid (sat_shift b (wrap64 (a : Int)) hb (by omega) (by omega) u)
  have H12 := fun u => Lib.hid (ref_shift b (wrap64 (a : Int)) hb (by omega) (by omega) u)
  have H13 := fun u => Lib.hid (lives u)
  generalize shl a ((c % 100 : Nat) : Int) = z1 at *
  generalize shl b (wrap64 (a : Int)) = z2 at *
  generalize min (a + b) 18446744073709551615 = z3 at *
  generalize min (a * b) 18446744073709551615 = z4 at *
  generalize min (a + b * c) 18446744073709551615 = z5 at *
  generalize a - b = z6 at *
  generalize c % 100 = n at *
  clear ha hb hc hx1 hx2
  go_enter Try.func12, Try.ntmps12
  go_wp2_with fail
  refine (H1 _).out.mono ?_
  rintro e w' ⟨rfl, rfl⟩
  go_wp2_with fail
  refine (H2 _).out.mono ?_
  rintro e w2 ⟨rfl, u2⟩
  go_wp2_with fail
  refine (H3 _).out.mono ?_
  rintro e w' ⟨rfl, rfl⟩
  go_wp2_with fail
  refine (H4 _).out.mono ?_
  rintro e w' ⟨rfl, rfl⟩
  go_wp2_with fail
  refine (H5 _).out.mono ?_
  rintro e w' ⟨rfl, rfl⟩
  go_wp2_with fail
  refine (H6 _).out.mono ?_
  rintro e w6 ⟨rfl, u6⟩
  go_wp2_with fail
  refine (H7 _).out.mono ?_
  rintro e w' ⟨rfl, rfl⟩
  go_wp2_with fail
  refine (H8 _).out.mono ?_
  rintro e w8 ⟨rfl, u8⟩
  go_wp2_with fail
  refine (H9 _).out.mono ?_
  rintro e w' ⟨rfl, rfl⟩
  go_wp2_with fail
  refine (H10 _).out.mono ?_
  rintro e w10 ⟨rfl, u10⟩
  go_wp2_with fail
  refine (H11 _).out.mono ?_
  rintro e w' ⟨rfl, rfl⟩
  go_wp2_with fail
  refine (H12 _).out.mono ?_
  rintro e w12 ⟨rfl, u12⟩
  go_wp2_with fail
  refine (H13 _).out.mono ?_
  rintro e w13 ⟨rfl, u13⟩
  go_wp2_with fail
  go_ret
  exact ⟨rfl, ((((((Upd.refl _ _).trans u2 (fun _ _ h => h)).trans u6 (fun _ _ h => h)).trans u8 (fun _ _ h => h)).trans u10 (fun _ _ h => h)).trans u12 (fun _ _ h => h)).trans u13 (fun _ _ h => h)⟩
theorem adds_int (a b c : Int) (ha : 0 ≤ a ∧ a ≤ 18446744073709551615) (hb : 0 ≤ b ∧ b ≤ 18446744073709551615) (hc : 0 ≤ c ∧ c ≤ 18446744073709551615) (w : World) :
    Calls Try.prog 12 #[.int .u64 a, .int .u64 b, .int .u64 c] w fun e w' => e = .returned (.bool true) ∧ Upd Nowhere w w' := by
  obtain ⟨n, rfl⟩ : ∃ n : Nat, a = n := ⟨a.toNat, by omega⟩
  obtain ⟨m, rfl⟩ : ∃ n : Nat, b = n := ⟨b.toNat, by omega⟩
  obtain ⟨k, rfl⟩ : ∃ n : Nat, c = n := ⟨c.toNat, by omega⟩
  exact adds_law n m k (by omega) (by omega) (by omega) w
end Go.Proofs.Yteahlkdcemjbiaa.Sat
