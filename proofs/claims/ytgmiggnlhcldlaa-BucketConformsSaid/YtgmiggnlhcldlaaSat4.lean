/- Shift, of sat and of the reference. -/
import Derived.Test.YtgmiggnlhcldlaaSat3
namespace Go.Proofs.Ytgmiggnlhcldlaa.Sat
open Go.RowKit Go.Proofs BigFrame
open Wide (Gives)
open Bits (len64 bitLen_le wrapN)

/-- Doublings, capped. -/
def shl (a : Nat) (n : Int) : Nat := min (a * 2 ^ (min n.toNat 64)) 18446744073709551615

theorem shl_same (a : Nat) (n : Int) (ha : a ≤ 18446744073709551615) (h : a = 0 ∨ n ≤ 0) : shl a n = a := by
  rcases h with rfl | h
  · simp [shl]
  · simp only [shl, Int.toNat_of_nonpos h, Nat.zero_min, Nat.pow_zero, Nat.mul_one]; omega
theorem shl_big (a : Nat) (n : Int) (h0 : 0 < a) (h : 64 ≤ n) : shl a n = 18446744073709551615 := by
  have e : min n.toNat 64 = 64 := by omega
  simp only [shl, e, Nat.reducePow]; omega
theorem shl_over (a k : Nat) (h0 : 0 < a) (ha : a ≤ 18446744073709551615) (hk : k < 64) (h : 64 < Lib.bitLen a + k) : shl a (k : Int) = 18446744073709551615 := by
  obtain ⟨_, b2⟩ := Go.Proofs.Ytgmiggnlhcldlaa.Bits.bitLen_spec a a (Nat.le_refl _) (by omega)
  have b4 := (b2 (by omega)).2
  have b3 := (b2 (by omega)).1
  have e : min (k : Int).toNat 64 = k := by omega
  have h1 : 2 ^ (Lib.bitLen a - 1) * 2 ^ k ≤ a * 2 ^ k := Nat.mul_le_mul_right _ b4
  rw [← Nat.pow_add] at h1
  have h2 : 2 ^ 64 ≤ 2 ^ (Lib.bitLen a - 1 + k) := Nat.pow_le_pow_right (by omega) (by omega)
  simp only [shl, e]
  simp only [Nat.reducePow] at h2
  omega
theorem shl_in (a k : Nat) (ha : a ≤ 18446744073709551615) (hk : k < 64) (h : Lib.bitLen a + k ≤ 64) : shl a (k : Int) = a * 2 ^ k ∧ a * 2 ^ k < 18446744073709551616 := by
  obtain ⟨b1, _⟩ := Go.Proofs.Ytgmiggnlhcldlaa.Bits.bitLen_spec a a (Nat.le_refl _) (by omega)
  have e : min (k : Int).toNat 64 = k := by omega
  have h1 : a * 2 ^ k < 2 ^ Lib.bitLen a * 2 ^ k := Nat.mul_lt_mul_of_pos_right b1 (Nat.two_pow_pos k)
  rw [← Nat.pow_add] at h1
  have h2 : 2 ^ (Lib.bitLen a + k) ≤ 2 ^ 64 := Nat.pow_le_pow_right (by omega) h
  simp only [Nat.reducePow] at h2
  simp only [shl, e]
  omega

set_option maxHeartbeats 1000000
theorem dbl_step (a k : Nat) : min (min (a * 2 ^ k) 18446744073709551615 + min (a * 2 ^ k) 18446744073709551615) 18446744073709551615 = min (a * 2 ^ (k + 1)) 18446744073709551615 := by
  rw [Nat.pow_succ, ← Nat.mul_assoc]; omega

end Go.Proofs.Ytgmiggnlhcldlaa.Sat
