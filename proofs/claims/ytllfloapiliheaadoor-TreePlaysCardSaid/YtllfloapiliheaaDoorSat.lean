/- sat, and the reference's sums, differences and products. -/
import Derived.Test.YtllfloapiliheaaDoorTimes
namespace Go.Proofs.YtllfloapiliheaaDoor.Sat
open Go.RowKit Go.Proofs BigFrame
open Wide (four dg lowB Gives plusD carry)
open Bits (mul64 sat_add)

theorem dg_lt (n i : Nat) : dg n i < 4294967296 := Nat.mod_lt _ (by omega)
theorem lowB_dg (m n : Nat) (hm : m < 340282366920938463463374607431768211456) (hn : n < 340282366920938463463374607431768211456) : lowB (dg m) (dg n) 4 = decide (m < n) := by
  have e (a : Nat) (ha : a < 340282366920938463463374607431768211456) : dg a 0 + dg a 1 * 4294967296 + dg a 2 * 18446744073709551616 + dg a 3 * 79228162514264337593543950336 = a := by
    simp only [dg, Nat.reducePow, Nat.pow_zero, Nat.pow_one, Nat.div_one]; omega
  have em := e m hm
  have en := e n hn
  have l (a i : Nat) := dg_lt a i
  have m0 := l m 0; have m1 := l m 1; have m2 := l m 2; have m3 := l m 3
  have n0 := l n 0; have n1 := l n 1; have n2 := l n 2; have n3 := l n 3
  simp only [lowB]
  generalize dg m 0 = a0 at *; generalize dg m 1 = a1 at *; generalize dg m 2 = a2 at *; generalize dg m 3 = a3 at *
  generalize dg n 0 = b0 at *; generalize dg n 1 = b1 at *; generalize dg n 2 = b2 at *; generalize dg n 3 = b3 at *
  subst em en
  rw [Bool.eq_iff_iff]
  repeat' split
  all_goals simp only [decide_eq_true_eq, Bool.false_eq_true, false_iff]
  all_goals omega
theorem split32 (x : Nat) : ∃ q r, x / 4294967296 = q ∧ x % 4294967296 = r ∧ x = q * 4294967296 + r ∧ r < 4294967296 := ⟨_, _, rfl, rfl, by omega, by omega⟩
theorem dg_sum (a : Nat) (ha : a < 340282366920938463463374607431768211456) : dg a 0 + dg a 1 * 4294967296 + dg a 2 * 18446744073709551616 + dg a 3 * 79228162514264337593543950336 = a := by
  simp only [dg, Nat.reducePow, Nat.pow_zero, Nat.pow_one, Nat.div_one]; omega
theorem plusD_dg (m n : Nat) (h : m + n < 340282366920938463463374607431768211456) : four (plusD (dg m) (dg n)) = four (dg (m + n)) := by
  have em := dg_sum m (by omega)
  have en := dg_sum n (by omega)
  have h0 : plusD (dg m) (dg n) 0 = (dg m 0 + dg n 0 + 0) % 4294967296 := rfl
  have h1 : plusD (dg m) (dg n) 1 = (dg m 1 + dg n 1 + (dg m 0 + dg n 0 + 0) / 4294967296) % 4294967296 := rfl
  have h2 : plusD (dg m) (dg n) 2 = (dg m 2 + dg n 2 + (dg m 1 + dg n 1 + (dg m 0 + dg n 0 + 0) / 4294967296) / 4294967296) % 4294967296 := rfl
  have h3 : plusD (dg m) (dg n) 3 = (dg m 3 + dg n 3 + (dg m 2 + dg n 2 + (dg m 1 + dg n 1 + (dg m 0 + dg n 0 + 0) / 4294967296) / 4294967296) / 4294967296) % 4294967296 := rfl
  obtain ⟨q0, r0, d0, d0', k0, l0⟩ := split32 (dg m 0 + dg n 0 + 0)
  rw [d0'] at h0
  rw [d0] at h1 h2 h3
  obtain ⟨q1, r1, d1, d1', k1, l1⟩ := split32 (dg m 1 + dg n 1 + q0)
  rw [d1'] at h1
  rw [d1] at h2 h3
  obtain ⟨q2, r2, d2, d2', k2, l2⟩ := split32 (dg m 2 + dg n 2 + q1)
  rw [d2'] at h2
  rw [d2] at h3
  obtain ⟨q3, r3, d3, d3', k3, l3⟩ := split32 (dg m 3 + dg n 3 + q2)
  rw [d3'] at h3
  clear d0 d0' d1 d1' d2 d2' d3 d3'
  obtain ⟨g0, g1, g2, g3⟩ := Wide.dg_of (m + n) r0 r1 r2 r3 l0 l1 l2 l3 (by omega)
  unfold four
  rw [h0, h1, h2, h3, g0, g1, g2, g3]
theorem cap_dg (n : Nat) (hn : n < 340282366920938463463374607431768211456) : (if dg n 2 = 0 ∧ dg n 3 = 0 then dg n 1 * 4294967296 + dg n 0 else 18446744073709551615) = min n 18446744073709551615 := by
  simp only [dg, Nat.reducePow, Nat.pow_zero, Nat.pow_one, Nat.div_one]
  split <;> omega
theorem prod_lt {a b : Nat} (ha : a ≤ 18446744073709551615) (hb : b ≤ 18446744073709551615) : a * b ≤ 340282366920938463426481119284349108225 := Nat.mul_le_mul ha hb

set_option maxHeartbeats 1000000
theorem plus_num (m n : Nat) (h : m + n < 340282366920938463463374607431768211456) (w : World) :
    Calls Tryd.prog 36 #[four (dg m), four (dg n)] w fun e w' => Gives w (four (dg (m + n))) e w' := by
  rw [← plusD_dg m n h]; exact Wide.plus_any _ _ (fun i _ => dg_lt _ _) (fun i _ => dg_lt _ _) w
theorem cap_num (n : Nat) (hn : n < 340282366920938463463374607431768211456) (w : World) :
    Calls Tryd.prog 35 #[four (dg n)] w fun e w' => Gives w (.int .u64 (min n 18446744073709551615 : Nat)) e w' := by
  rw [← cap_dg n hn]; exact Wide.cap_any _ (fun i _ => dg_lt _ _) w
end Go.Proofs.YtllfloapiliheaaDoor.Sat
