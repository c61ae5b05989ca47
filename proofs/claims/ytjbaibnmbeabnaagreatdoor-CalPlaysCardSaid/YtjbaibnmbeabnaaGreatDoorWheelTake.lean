/- wheel: take. -/
import Derived.Test.YtjbaibnmbeabnaaGreatDoorWheel
import Derived.Test.YtjbaibnmbeabnaaGreatDoorMix2
namespace Go.Proofs.YtjbaibnmbeabnaaGreatDoor.Wheel
open Go.RowKit Go.Proofs BigFrame Heap
set_option maxHeartbeats 4000000
set_option maxRecDepth 1000000
theorem andNot_u64_nat (a b : Nat) (ha : a < 18446744073709551616) (hb : b < 18446744073709551616) : bits .andNot .u64 (a : Int) (b : Int) = ((a &&& (18446744073709551615 - b) : Nat) : Int) := by
  have hx : a &&& (18446744073709551615 - b) < 2 ^ 64 := Nat.and_lt_two_pow _ (by omega)
  have o1 : (BitVec.ofInt 64 (a : Int)).toNat = a := by rw [BitVec.ofInt_natCast, BitVec.toNat_ofNat]; exact Nat.mod_eq_of_lt (by omega)
  have o2 : (BitVec.ofInt 64 (b : Int)).toNat = b := by rw [BitVec.ofInt_natCast, BitVec.toNat_ofNat]; exact Nat.mod_eq_of_lt (by omega)
  show IntKind.u64.wrap ((BitVec.ofInt 64 (a : Int) &&& ~~~BitVec.ofInt 64 (b : Int)).toNat : Int) = _
  rw [BitVec.toNat_and, BitVec.toNat_not, o1, o2, IntKind.wrap_u64]
  have e : 2 ^ 64 - 1 - b = 18446744073709551615 - b := by omega
  rw [e]
  omega
theorem andNot_bit {u i : Nat} (hi : i < 64) (hu : u < 2 ^ 64) (h : u.testBit i = true) : u &&& (18446744073709551615 - 2 ^ i) = u - 2 ^ i := by
  apply Nat.eq_of_testBit_eq
  intro j
  rw [Nat.testBit_and, drop_bit h]
  by_cases hj : j < 64
  · have e : (18446744073709551615 - 2 ^ i).testBit j = decide (j ≠ i) := by
      have h1 : (18446744073709551615 : Nat) = 2 ^ 64 - 1 := by omega
      have h2 : (2 ^ 64 - 1).testBit i = true := by rw [Nat.testBit_two_pow_sub_one]; simp [hi]
      rw [h1, drop_bit h2, Nat.testBit_two_pow_sub_one]
      simp [hj]
    rw [e]
  · have e : u.testBit j = false := Nat.testBit_lt_two_pow (Nat.lt_of_lt_of_le hu (Nat.pow_le_pow_right (by omega) (by omega)))
    rw [e]; simp
theorem upd_at (w : World) (b o : Nat) (v : Value) : Upd (fun k => k = b) w (w.setCell ⟨b, o, none⟩ v) := upd_blk ⟨b, o, none⟩ v
end Go.Proofs.YtjbaibnmbeabnaaGreatDoor.Wheel
