/- Shift, of sat and of the reference. -/
import Derived.Test.YteahlkdcemjbiaaSat3
namespace Go.Proofs.Yteahlkdcemjbiaa.Sat
open Go.RowKit Go.Proofs BigFrame
open Wide (Gives)
open Bits (len64 bitLen_le wrapN)

/-- Doublings, capped. -/
def shl (a : Nat) (n : Int) : Nat := min (a * 2 ^ (min n.toNat 64)) 18446744073709551615

theorem shl_same (a : Nat) (n : Int) (ha : a ≤ 18446744073709551615) (h : a = 0 ∨ n ≤ 0) : shl a n = a := by
  rcases h with rfl | h
  · simp [shl]
  · simp only [shl, Int.toNat_of_nonpos h, Nat.zero_min, Nat.pow_zero, Nat.mul_one]; omega
theorem shl_big (a : Nat) (n : Int) (h0 : 0 < a) (h : 64 ≤ n) : shl a n = 18446744073709551615 := by
  have e : min n.toNat 64 = 64 := by omega
  simp only [shl, e, Nat.reducePow]; omega
theorem shl_over (a k : Nat) (h0 : 0 < a) (ha : a ≤ 18446744073709551615) (hk : k < 64) (h : 64 < Lib.bitLen a + k) : shl a (k : Int) = 18446744073709551615 := by
  obtain ⟨_, b2⟩ := Go.Proofs.Yteahlkdcemjbiaa.Bits.bitLen_spec a a (Nat.le_refl _) (by omega)
  have b4 := (b2 (by omega)).2
  have b3 := (b2 (by omega)).1
  have e : min (k : Int).toNat 64 = k := by omega
  have h1 : 2 ^ (Lib.bitLen a - 1) * 2 ^ k ≤ a * 2 ^ k := Nat.mul_le_mul_right _ b4
  rw [← Nat.pow_add] at h1
  have h2 : 2 ^ 64 ≤ 2 ^ (Lib.bitLen a - 1 + k) := Nat.pow_le_pow_right (by omega) (by omega)
  simp only [shl, e]
  simp only [Nat.reducePow] at h2
  omega
theorem shl_in (a k : Nat) (ha : a ≤ 18446744073709551615) (hk : k < 64) (h : Lib.bitLen a + k ≤ 64) : shl a (k : Int) = a * 2 ^ k ∧ a * 2 ^ k < 18446744073709551616 := by
  obtain ⟨b1, _⟩ := Go.Proofs.Yteahlkdcemjbiaa.Bits.bitLen_spec a a (Nat.le_refl _) (by omega)
  have e : min (k : Int).toNat 64 = k := by omega
  have h1 : a * 2 ^ k < 2 ^ Lib.bitLen a * 2 ^ k := Nat.mul_lt_mul_of_pos_right b1 (Nat.two_pow_pos k)
  rw [← Nat.pow_add] at h1
  have h2 : 2 ^ (Lib.bitLen a + k) ≤ 2 ^ 64 := Nat.pow_le_pow_right (by omega) h
  simp only [Nat.reducePow] at h2
  simp only [shl, e]
  omega

set_option maxHeartbeats 1000000
theorem sat_shift (a : Nat) (n : Int) (ha : a ≤ 18446744073709551615) (h1 : -9223372036854775808 ≤ n) (h2 : n ≤ 9223372036854775807) (w : World) :
    Calls Try.prog 44 #[.int .u64 a, .int .i64 n] w fun e w' => e = .returned (.int .u64 (shl a n : Nat)) ∧ w = w' := by
  rcases Nat.eq_zero_or_pos a with rfl | hap
  · rw [shl_same 0 n ha (Or.inl rfl)]
    go_enter Try.func44, Try.ntmps44
    go_wp2
    go_ret
    exact ⟨rfl, rfl⟩
  rcases Int.lt_or_le 0 n with hn | hn
  case inr =>
    rw [shl_same a n ha (Or.inr hn)]
    go_enter Try.func44, Try.ntmps44
    go_wp2
    go_ret
    exact ⟨rfl, rfl⟩
  rcases Int.lt_or_le n 64 with hm | hm
  case inr =>
    rw [shl_big a n hap hm]
    have d1 : ((a : Int) == 0) = false := by simp; omega
    have d2 : decide (n ≤ 0) = false := by simp; omega
    have d3 : ((a : Int) == 0 || decide (n ≤ 0)) = false := by rw [d1, d2]; rfl
    go_enter Try.func44, Try.ntmps44
    go_wp2
    go_ret
    exact ⟨rfl, rfl⟩
  obtain ⟨k, rfl⟩ : ∃ k : Nat, n = (k : Int) := ⟨n.toNat, by omega⟩
  have hk : k < 64 := by omega
  have d1 : ((a : Int) == 0) = false := by simp; omega
  have d2 : decide (k = 0) = false := by simp; omega
  have d3 : ((a : Int) == 0 || decide (k = 0)) = false := by rw [d1, d2]; rfl
  have d4 : decide ((k : Int) ≤ 0) = false := by simp; omega
  have d5 : ((a : Int) == 0 || decide ((k : Int) ≤ 0)) = false := by rw [d1, d4]; rfl
  have hl := fun u => Lib.hid (len64 (a : Int) u (by omega) (by omega))
  have hb := bitLen_le a (by omega)
  rw [show (a : Int).toNat = a from by omega] at hl
  rcases Nat.lt_or_ge 64 (Lib.bitLen a + k) with ho | ho
  · rw [shl_over a k hap ha hk ho]
    generalize Lib.bitLen a = L at *
    have e1 : wrap64 ((L : Int) + (k : Int)) = ((L + k : Nat) : Int) := by rw [IntWalk.wrap64_in _ ⟨by omega, by omega⟩]; omega
    go_enter Try.func44, Try.ntmps44
    go_wp2_with fail
    refine (hl _).out.mono ?_
    rintro e w' ⟨rfl, rfl⟩
    go_wp2_with fail
    go_ret
    exact ⟨rfl, rfl⟩
  · obtain ⟨g1, g2⟩ := shl_in a k ha hk ho
    rw [g1]
    generalize Lib.bitLen a = L at *
    have e1 : wrap64 ((L : Int) + (k : Int)) = ((L + k : Nat) : Int) := by rw [IntWalk.wrap64_in _ ⟨by omega, by omega⟩]; omega
    have c1 : ((a * 2 ^ k : Nat) : Int) = (a : Int) * 2 ^ k := by push_cast; rfl
    have e2 : IntKind.u64.wrap ((a : Int) * 2 ^ k) = ((a * 2 ^ k : Nat) : Int) := by rw [← c1]; exact wrapN _ g2
    clear c1
    generalize a * 2 ^ k = z at *
    go_enter Try.func44, Try.ntmps44
    go_wp2_with fail
    refine (hl _).out.mono ?_
    rintro e w' ⟨rfl, rfl⟩
    go_wp2_with fail
    go_ret
    exact ⟨rfl, rfl⟩

theorem dbl_step (a k : Nat) : min (min (a * 2 ^ k) 18446744073709551615 + min (a * 2 ^ k) 18446744073709551615) 18446744073709551615 = min (a * 2 ^ (k + 1)) 18446744073709551615 := by
  rw [Nat.pow_succ, ← Nat.mul_assoc]; omega

theorem ref_shift (a : Nat) (n : Int) (ha : a ≤ 18446744073709551615) (h1 : -9223372036854775808 ≤ n) (h2 : n ≤ 9223372036854775807) (w : World) :
    Calls Try.prog 45 #[.int .u64 a, .int .i64 n] w fun e w' => Gives w (.int .u64 (shl a n : Nat)) e w' := by
  have hadd := fun k u => Lib.hid (ref_add (min (a * 2 ^ k) 18446744073709551615) (min (a * 2 ^ k) 18446744073709551615) (Nat.min_le_right _ _) (Nat.min_le_right _ _) u)
  simp only [dbl_step] at hadd
  go_enter Try.func45, Try.ntmps45
  go_wp2
  go_loopw [0, 5] (fun c i wr => ∃ k : Nat, k ≤ min n.toNat 64 ∧ i = .int .i64 k ∧ c = .int .u64 (min (a * 2 ^ k) 18446744073709551615 : Nat) ∧ Upd Nowhere w wr) (fun _ i _ => 64 - (intOf i).toNat)
  case atStart => exact ⟨0, by omega, rfl, by rw [Nat.pow_zero, Nat.mul_one, Nat.min_eq_left ha], Upd.refl _ _⟩
  case round =>
    obtain ⟨k, hk, rfl, rfl, hu⟩ := hrel
    rcases Nat.lt_or_ge k (min n.toNat 64) with hlt | hge
    · have hA := hadd k
      have d1 : decide ((k : Int) < n) = true := by simp; omega
      have d2 : decide ((k : Int) < 64) = true := by simp; omega
      have d3 : decide (k < 64) = true := by simp; omega
      have hw : wrap64 ((k : Int) + 1) = ((k + 1 : Nat) : Int) := by rw [IntWalk.wrap64_in _ ⟨by omega, by omega⟩]; omega
      have hN : Hid (k + 1 ≤ min n.toNat 64) := Lib.hid hlt
      generalize min (a * 2 ^ k) 18446744073709551615 = c at *
      obtain ⟨c', hc'⟩ : ∃ c', min (a * 2 ^ (k + 1)) 18446744073709551615 = c' := ⟨_, rfl⟩
      rw [hc'] at hA
      have HC := Lib.hid hc'.symm
      clear hc'
      go_wp2_with fail
      refine (hA _).out.mono ?_
      rintro e w1 ⟨rfl, u1⟩
      go_wp2_with fail
      go_roundw
      case rel => exact ⟨k + 1, hN.out, by go_num, by rw [HC.out], hu.trans u1 (fun _ _ h => h)⟩
      case measure => simp [intOf]; omega
    · have ek : min n.toNat 64 = k := by omega
      have es : shl a n = min (a * 2 ^ k) 18446744073709551615 := by simp only [shl, ek]
      have Es := Lib.hid es
      clear es
      have Es' : Hid (shl a n = min (a * 2 ^ k) 18446744073709551615) := Es
      clear Es
      obtain ⟨c, hc⟩ : ∃ c, min (a * 2 ^ k) 18446744073709551615 = c := ⟨_, rfl⟩
      rw [hc]
      have Ec := Lib.hid hc
      clear hc hadd
      rcases Int.lt_or_le (k : Int) n with hlt | hle
      · obtain rfl : k = 64 := by omega
        have d1 : decide ((64 : Int) < n) = true := by simp; omega
        clear ek hge hk
        go_wp2
        go_ret
        exact ⟨(congrArg (fun m : Nat => Ending.returned (.int .u64 (m : Int))) (Es'.out.trans Ec.out)).symm, hu⟩
      · have d1 : decide ((k : Int) < n) = false := by simp; omega
        clear ek hge hk
        go_wp2
        go_ret
        exact ⟨(congrArg (fun m : Nat => Ending.returned (.int .u64 (m : Int))) (Es'.out.trans Ec.out)).symm, hu⟩
end Go.Proofs.Yteahlkdcemjbiaa.Sat
