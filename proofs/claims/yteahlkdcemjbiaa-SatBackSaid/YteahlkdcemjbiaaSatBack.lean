/- SatBack. -/
import Derived.Test.YteahlkdcemjbiaaSatLives
namespace Go.Proofs.Yteahlkdcemjbiaa.Sat
open Go.RowKit Go.Proofs BigFrame
open Wide (Gives)
open Bits (sat_add)
theorem through_one (a b : Nat) (hb : 0 < b) (_h : a * b < 18446744073709551615) (ha : a ≤ 18446744073709551615) : through (a * b) 1 b = a := by
  simp only [through]; rw [if_neg (by omega), Nat.mul_one, Nat.mul_div_cancel _ hb]; omega
theorem through_back (a b : Nat) (hb : 0 < b) (ha : a ≤ 18446744073709551615) : through a b b = a := by
  simp only [through]; rw [if_neg (by omega), Nat.mul_div_cancel _ hb]; omega
theorem ups_back (a b : Nat) (hb : 0 < b) : ups (a * b) b = a := by
  simp only [ups]
  rcases Nat.eq_zero_or_pos a with rfl | ha
  · rw [Nat.zero_mul, if_pos rfl]
  · have h1 : 0 < a * b := Nat.mul_pos ha hb
    rw [if_neg (by omega), if_neg (by omega)]
    obtain ⟨n, rfl⟩ : ∃ n, a = n + 1 := ⟨a - 1, by omega⟩
    have : ((n + 1) * b - 1) / b = n := by
      refine Nat.div_eq_of_lt_le ?_ ?_ <;> (rw [Nat.add_mul, Nat.one_mul] at *; omega)
    rw [this]
set_option maxHeartbeats 1000000
set_option maxRecDepth 100000
theorem back_law (a b : Nat) (ha : a ≤ 18446744073709551615) (hb : b ≤ 18446744073709551615) (w : World) :
    Calls Try.prog 11 #[.int .u64 a, .int .u64 b] w fun e w' => e = .returned (.bool true) ∧ Upd Nowhere w w' := by
  obtain ⟨s, hs⟩ : ∃ s, min (a + b) 18446744073709551615 = s := ⟨_, rfl⟩
  obtain ⟨p, hp⟩ : ∃ p, min (a * b) 18446744073709551615 = p := ⟨_, rfl⟩
  have h1 := fun u => sat_add a b u ha hb
  have h2 := fun u => sat_mul a b ha hb u
  rw [hs] at h1
  rw [hp] at h2
  have hsm : s ≤ 18446744073709551615 := by omega
  have hpm : p ≤ 18446744073709551615 := by omega
  have H1 := fun u => Lib.hid (h1 u)
  have H2 := fun u => Lib.hid (h2 u)
  have H8 := fun u => Lib.hid (sat_sub a b ha hb u)
  have H9 := fun u => Lib.hid (lives u)
  clear h1 h2
  have eN : IntKind.u64.wrap (((a - b : Nat) : Int) + (b : Int)) = ((a - b + b : Nat) : Int) := by
    have e : ((a - b : Nat) : Int) + (b : Int) = ((a - b + b : Nat) : Int) := by push_cast; rfl
    rw [e]; exact Bits.wrapN _ (by omega)
  obtain ⟨d, hd⟩ : ∃ d, a - b = d := ⟨_, rfl⟩
  obtain ⟨y, hy⟩ : ∃ y, d + b = y := ⟨_, rfl⟩
  have hya : a ≤ y := by omega
  have y1 : decide ((y : Int) ≥ (a : Int)) = true := by simp; omega
  have y2 : decide (a ≤ y) = true := by simp; omega
  have y3 : decide (y ≥ a) = true := by simp; omega
  rw [hd] at eN H8
  rw [hy] at eN
  rcases Nat.lt_or_ge s 18446744073709551615 with hsl | hsl
  · have H3 := fun u => Lib.hid (sat_sub s b hsm hb u)
    have H4 := fun u => Lib.hid (sat_sub s a hsm ha u)
    rw [show s - b = a by omega] at H3
    rw [show s - a = b by omega] at H4
    have t1 : decide ((s : Int) < 18446744073709551615) = true := by simp; omega
    have t2 : decide (s < 18446744073709551615) = true := by simp; omega
    rcases Nat.eq_zero_or_pos b with hb0 | hbp
    case inl =>
      obtain rfl : b = 0 := by omega
      have eN0 : IntKind.u64.wrap (d : Int) = (y : Int) := by rw [← eN]; congr 1
      clear ha hb hs hp hsm hpm hd hy hya hb0 hsl
      go_enter Try.func11, Try.ntmps11
      go_wp2_with fail
      refine (H1 _).out.mono ?_
      rintro e w' ⟨rfl, rfl⟩
      go_wp2_with fail
      refine (H2 _).out.mono ?_
      rintro e w' ⟨rfl, rfl⟩
      go_wp2_with fail
      refine (H3 _).out.mono ?_
      rintro e w' ⟨rfl, rfl⟩
      go_wp2_with fail
      refine (H4 _).out.mono ?_
      rintro e w' ⟨rfl, rfl⟩
      go_wp2_with fail
      refine (H8 _).out.mono ?_
      rintro e w' ⟨rfl, rfl⟩
      go_wp2_with fail
      refine (H9 _).out.mono ?_
      rintro e w9 ⟨rfl, u9⟩
      go_wp2_with fail
      go_ret
      exact ⟨rfl, (Upd.refl _ _).trans u9 (fun _ _ h => h)⟩
    have H7 := fun u => Lib.hid (sat_muldiv a b b ha hb hb u)
    rw [through_back a b hbp ha] at H7
    have t3 : decide ((b : Int) > 0) = true := by simp; omega
    have t4 : decide (0 < b) = true := by simp; omega
    have t5 : decide ((0 : Int) < (b : Int)) = true := by simp; omega
    have t6 : ((b : Int) == 0) = false := by simp; omega
    rcases Nat.lt_or_ge p 18446744073709551615 with hpl | hpl
    · have hpe : p = a * b := by omega
      have H5 := fun u => Lib.hid (sat_divup p b hpm hb u)
      have H6 := fun u => Lib.hid (sat_muldiv p 1 b hpm (by omega) hb u)
      rw [show ups p b = a by rw [hpe]; exact ups_back a b hbp] at H5
      rw [show through p 1 b = a by rw [hpe]; exact through_one a b hbp (by omega) ha] at H6
      have t7 : decide ((p : Int) < 18446744073709551615) = true := by simp; omega
      have t8 : decide (p < 18446744073709551615) = true := by simp; omega
      clear hpe
      clear ha hb hs hp hsm hpm hd hy hya hbp hpl hsl
      go_enter Try.func11, Try.ntmps11
      go_wp2_with fail
      refine (H1 _).out.mono ?_
      rintro e w' ⟨rfl, rfl⟩
      go_wp2_with fail
      refine (H2 _).out.mono ?_
      rintro e w' ⟨rfl, rfl⟩
      go_wp2_with fail
      refine (H3 _).out.mono ?_
      rintro e w' ⟨rfl, rfl⟩
      go_wp2_with fail
      refine (H4 _).out.mono ?_
      rintro e w' ⟨rfl, rfl⟩
      go_wp2_with fail
      refine (H5 _).out.mono ?_
      rintro e w' ⟨rfl, rfl⟩
      go_wp2_with fail
      refine (H6 _).out.mono ?_
      rintro e w' ⟨rfl, k1, rfl⟩
      go_wp2_with fail
      refine (H7 _).out.mono ?_
      rintro e w' ⟨rfl, k2, rfl⟩
      go_wp2_with fail
      refine (H8 _).out.mono ?_
      rintro e w' ⟨rfl, rfl⟩
      go_wp2_with fail
      refine (H9 _).out.mono ?_
      rintro e w9 ⟨rfl, u9⟩
      go_wp2_with fail
      go_ret
      exact ⟨rfl, ((Upd.refl _ _).drewN (k1 + k2)).trans u9 (fun _ _ h => h)⟩
    · obtain rfl : p = 18446744073709551615 := by omega
      clear ha hb hs hp hsm hpm hd hy hya hbp hpl hsl
      go_enter Try.func11, Try.ntmps11
      go_wp2_with fail
      refine (H1 _).out.mono ?_
      rintro e w' ⟨rfl, rfl⟩
      go_wp2_with fail
      refine (H2 _).out.mono ?_
      rintro e w' ⟨rfl, rfl⟩
      go_wp2_with fail
      refine (H3 _).out.mono ?_
      rintro e w' ⟨rfl, rfl⟩
      go_wp2_with fail
      refine (H4 _).out.mono ?_
      rintro e w' ⟨rfl, rfl⟩
      go_wp2_with fail
      refine (H7 _).out.mono ?_
      rintro e w' ⟨rfl, k2, rfl⟩
      go_wp2_with fail
      refine (H8 _).out.mono ?_
      rintro e w' ⟨rfl, rfl⟩
      go_wp2_with fail
      refine (H9 _).out.mono ?_
      rintro e w9 ⟨rfl, u9⟩
      go_wp2_with fail
      go_ret
      exact ⟨rfl, ((Upd.refl _ _).drewN k2).trans u9 (fun _ _ h => h)⟩
  · obtain rfl : s = 18446744073709551615 := by omega
    rcases Nat.eq_zero_or_pos b with hb0 | hbp
    case inl =>
      obtain rfl : b = 0 := by omega
      have eN0 : IntKind.u64.wrap (d : Int) = (y : Int) := by rw [← eN]; congr 1
      clear ha hb hs hp hsm hpm hd hy hya hb0 hsl
      go_enter Try.func11, Try.ntmps11
      go_wp2_with fail
      refine (H1 _).out.mono ?_
      rintro e w' ⟨rfl, rfl⟩
      go_wp2_with fail
      refine (H2 _).out.mono ?_
      rintro e w' ⟨rfl, rfl⟩
      go_wp2_with fail
      refine (H8 _).out.mono ?_
      rintro e w' ⟨rfl, rfl⟩
      go_wp2_with fail
      refine (H9 _).out.mono ?_
      rintro e w9 ⟨rfl, u9⟩
      go_wp2_with fail
      go_ret
      exact ⟨rfl, (Upd.refl _ _).trans u9 (fun _ _ h => h)⟩
    have H7 := fun u => Lib.hid (sat_muldiv a b b ha hb hb u)
    rw [through_back a b hbp ha] at H7
    have t3 : decide ((b : Int) > 0) = true := by simp; omega
    have t4 : decide (0 < b) = true := by simp; omega
    have t5 : decide ((0 : Int) < (b : Int)) = true := by simp; omega
    have t6 : ((b : Int) == 0) = false := by simp; omega
    rcases Nat.lt_or_ge p 18446744073709551615 with hpl | hpl
    · have hpe : p = a * b := by omega
      have H5 := fun u => Lib.hid (sat_divup p b hpm hb u)
      have H6 := fun u => Lib.hid (sat_muldiv p 1 b hpm (by omega) hb u)
      rw [show ups p b = a by rw [hpe]; exact ups_back a b hbp] at H5
      rw [show through p 1 b = a by rw [hpe]; exact through_one a b hbp (by omega) ha] at H6
      have t7 : decide ((p : Int) < 18446744073709551615) = true := by simp; omega
      have t8 : decide (p < 18446744073709551615) = true := by simp; omega
      clear hpe
      clear ha hb hs hp hsm hpm hd hy hya hbp hpl hsl
      go_enter Try.func11, Try.ntmps11
      go_wp2_with fail
      refine (H1 _).out.mono ?_
      rintro e w' ⟨rfl, rfl⟩
      go_wp2_with fail
      refine (H2 _).out.mono ?_
      rintro e w' ⟨rfl, rfl⟩
      go_wp2_with fail
      refine (H5 _).out.mono ?_
      rintro e w' ⟨rfl, rfl⟩
      go_wp2_with fail
      refine (H6 _).out.mono ?_
      rintro e w' ⟨rfl, k1, rfl⟩
      go_wp2_with fail
      refine (H7 _).out.mono ?_
      rintro e w' ⟨rfl, k2, rfl⟩
      go_wp2_with fail
      refine (H8 _).out.mono ?_
      rintro e w' ⟨rfl, rfl⟩
      go_wp2_with fail
      refine (H9 _).out.mono ?_
      rintro e w9 ⟨rfl, u9⟩
      go_wp2_with fail
      go_ret
      exact ⟨rfl, ((Upd.refl _ _).drewN (k1 + k2)).trans u9 (fun _ _ h => h)⟩
    · obtain rfl : p = 18446744073709551615 := by omega
      clear ha hb hs hp hsm hpm hd hy hya hbp hpl hsl
      go_enter Try.func11, Try.ntmps11
      go_wp2_with fail
      refine (H1 _).out.mono ?_
      rintro e w' ⟨rfl, rfl⟩
      go_wp2_with fail
      refine (H2 _).out.mono ?_
      rintro e w' ⟨rfl, rfl⟩
      go_wp2_with fail
      refine (H7 _).out.mono ?_
      rintro e w' ⟨rfl, k2, rfl⟩
      go_wp2_with fail
      refine (H8 _).out.mono ?_
      rintro e w' ⟨rfl, rfl⟩
      go_wp2_with fail
      refine (H9 _).out.mono ?_
      rintro e w9 ⟨rfl, u9⟩
      go_wp2_with fail
      go_ret
      exact ⟨rfl, ((Upd.refl _ _).drewN k2).trans u9 (fun _ _ h => h)⟩
theorem back_int (a b : Int) (ha : 0 ≤ a ∧ a ≤ 18446744073709551615) (hb : 0 ≤ b ∧ b ≤ 18446744073709551615) (w : World) :
    Calls Try.prog 11 #[.int .u64 a, .int .u64 b] w fun e w' => e = .returned (.bool true) ∧ Upd Nowhere w w' := by
  obtain ⟨n, rfl⟩ : ∃ n : Nat, a = n := ⟨a.toNat, by omega⟩
  obtain ⟨m, rfl⟩ : ∃ n : Nat, b = n := ⟨b.toNat, by omega⟩
  exact back_law n m (by omega) (by omega) w
end Go.Proofs.Yteahlkdcemjbiaa.Sat
