/- SatDivides. -/
import Derived.Test.YteahlkdcemjbiaaSatLives
namespace Go.Proofs.Yteahlkdcemjbiaa.Sat
open Go.RowKit Go.Proofs BigFrame
open Wide (Gives)
set_option maxHeartbeats 1000000
set_option maxRecDepth 100000
theorem divides_law (a b c : Nat) (ha : a ≤ 18446744073709551615) (hb : b ≤ 18446744073709551615) (hc : c ≤ 18446744073709551615) (w : World) :
    Calls Try.prog 8 #[.int .u64 a, .int .u64 b, .int .u64 c] w fun e w' => e = .returned (.bool true) ∧ Upd Nowhere w w' := by
  have H1 := fun u => Lib.hid (sat_muldiv a b c ha hb hc u)
  have H2 := fun u => Lib.hid (ref_muldiv a b c ha hb hc u)
  have H3 := fun u => Lib.hid (sat_divup a b ha hb u)
  have H4 := fun u => Lib.hid (ref_divup a b ha hb u)
  have H5 := fun u => Lib.hid (lives u)
  generalize through a b c = m at *
  generalize ups a b = n at *
  clear ha hb hc
  go_enter Try.func8, Try.ntmps8
  go_wp2_with fail
  refine (H1 _).out.mono ?_
  rintro e w' ⟨rfl, k, rfl⟩
  go_wp2_with fail
  refine (H2 _).out.mono ?_
  rintro e w1 ⟨rfl, u1⟩
  go_wp2_with fail
  refine (H3 _).out.mono ?_
  rintro e w' ⟨rfl, rfl⟩
  go_wp2_with fail
  refine (H4 _).out.mono ?_
  rintro e w2 ⟨rfl, u2⟩
  go_wp2_with fail
  refine (H5 _).out.mono ?_
  rintro e w3 ⟨rfl, u3⟩
  go_wp2_with fail
  go_ret
  exact ⟨rfl, ((((Upd.refl _ _).drewN k).trans u1 (fun _ _ h => h)).trans u2 (fun _ _ h => h)).trans u3 (fun _ _ h => h)⟩
theorem divides_int (a b c : Int) (ha : 0 ≤ a ∧ a ≤ 18446744073709551615) (hb : 0 ≤ b ∧ b ≤ 18446744073709551615) (hc : 0 ≤ c ∧ c ≤ 18446744073709551615) (w : World) :
    Calls Try.prog 8 #[.int .u64 a, .int .u64 b, .int .u64 c] w fun e w' => e = .returned (.bool true) ∧ Upd Nowhere w w' := by
  obtain ⟨n, rfl⟩ : ∃ n : Nat, a = n := ⟨a.toNat, by omega⟩
  obtain ⟨m, rfl⟩ : ∃ n : Nat, b = n := ⟨b.toNat, by omega⟩
  obtain ⟨k, rfl⟩ : ∃ n : Nat, c = n := ⟨c.toNat, by omega⟩
  exact divides_law n m k (by omega) (by omega) (by omega) w
end Go.Proofs.Yteahlkdcemjbiaa.Sat
