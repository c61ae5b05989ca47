/- math/bits: Div64, whole. -/
import Derived.Test.YtllfloapiliheaaDoorDiv
import Derived.Test.YtllfloapiliheaaDoorDivPlain2
namespace Go.Proofs.YtllfloapiliheaaDoor.Bits
open Go.RowKit Go.Proofs
open Go.Proofs.YtllfloapiliheaaDoor.Div

theorem bits_or_high (x z s : Nat) (hx : x * 2 ^ s < 18446744073709551616) (hz : z < 2 ^ s) (hz2 : z < 18446744073709551616) :
    bits .or .u64 ((x * 2 ^ s : Nat) : Int) (z : Int) = ((x * 2 ^ s + z : Nat) : Int) := by
  have e : x * 2 ^ s ||| z = x * 2 ^ s + z := by
    rw [Nat.mul_comm x, Nat.two_pow_add_eq_or_of_lt hz]
  have hlt : x * 2 ^ s + z < 18446744073709551616 := by
    rw [← e]; exact Nat.or_lt_two_pow (n := 64) hx hz2
  have h3 : (BitVec.ofInt 64 ((x * 2 ^ s : Nat) : Int) ||| BitVec.ofInt 64 (z : Int)).toNat = x * 2 ^ s + z := by
    rw [BitVec.toNat_or, BitVec.ofInt_natCast, BitVec.toNat_ofNat, BitVec.ofInt_natCast, BitVec.toNat_ofNat, Nat.mod_eq_of_lt hx, Nat.mod_eq_of_lt hz2, e]
  have h4 : bits .or .u64 ((x * 2 ^ s : Nat) : Int) (z : Int) = IntKind.u64.wrap (((BitVec.ofInt 64 ((x * 2 ^ s : Nat) : Int) ||| BitVec.ofInt 64 (z : Int)).toNat : Nat) : Int) := rfl
  rw [h4, h3]
  exact wrapN _ hlt

theorem pow_split {s : Nat} (hs : s ≤ 64) : 2 ^ (64 - s) * 2 ^ s = 18446744073709551616 := by
  rw [← Nat.pow_add, Nat.sub_add_cancel hs]

theorem divs (n : Nat) {Y : Nat} (h : 0 < Y) : ∃ q r, q = n / Y ∧ n = q * Y + r ∧ r < Y := ⟨_, _, rfl, by rw [Nat.mul_comm]; exact (Nat.div_add_mod n Y).symm, Nat.mod_lt _ h⟩

/-- The numbers of the code. -/
theorem parts (hi lo y s : Nat) (hlt : hi < y) (hl : lo < 18446744073709551616) (hs : s ≤ 64) :
    Parts (hi * 18446744073709551616 + lo) y s (y * 2 ^ s) (hi * 2 ^ s + lo / 2 ^ (64 - s)) (lo * 2 ^ s % 18446744073709551616) := by
  have hp : 0 < 2 ^ s := Nat.two_pow_pos s
  have h64 := pow_split hs
  have hdiv : lo * 2 ^ s / 18446744073709551616 = lo / 2 ^ (64 - s) := by rw [← h64, Nat.mul_div_mul_right _ _ hp]
  have hlo := Nat.div_add_mod (lo * 2 ^ s) 18446744073709551616
  rw [hdiv] at hlo
  have eN : (hi * 18446744073709551616 + lo) * 2 ^ s = (hi * 2 ^ s + lo / 2 ^ (64 - s)) * 18446744073709551616 + lo * 2 ^ s % 18446744073709551616 := by
    rw [Nat.add_mul, Nat.add_mul, Nat.mul_right_comm hi, Nat.add_assoc, Nat.mul_comm (lo / _), hlo]
  refine ⟨rfl, eN, Nat.mod_lt _ (by omega), ?_, by omega⟩
  have h1 : (hi * 18446744073709551616 + lo) * 2 ^ s < y * 2 ^ s * 18446744073709551616 := by
    rw [Nat.mul_right_comm]
    refine Nat.mul_lt_mul_of_pos_right ?_ hp
    have : (hi + 1) * 18446744073709551616 ≤ y * 18446744073709551616 := Nat.mul_le_mul_right _ hlt
    rw [Nat.add_mul, Nat.one_mul] at this
    omega
  rw [eN] at h1
  exact Nat.lt_of_mul_lt_mul_right (Nat.lt_of_le_of_lt (Nat.le_add_right _ _) h1)

theorem andN (n : Nat) (h : n < 18446744073709551616) : bits .and .u64 (n : Int) 4294967295 = ((n % 4294967296 : Nat) : Int) := maskN n h
theorem wrapI (x : Int) (n : Nat) (h : x % 18446744073709551616 = (n : Int)) : IntKind.u64.wrap x = (n : Int) := by rw [IntKind.wrap_u64]; exact h
theorem wrapNN (n : Nat) : IntKind.u64.wrap (n : Int) = ((n % 18446744073709551616 : Nat) : Int) := wrapM n

theorem litN (n : Nat) : IntKind.u64.wrap ((n : Int) * 4294967296) = ((n * 4294967296 % 18446744073709551616 : Nat) : Int) := by
  rw [show (n : Int) * 4294967296 = ((n * 4294967296 : Nat) : Int) from (Int.natCast_mul n 4294967296).symm]; exact wrapNN _

set_option maxHeartbeats 1000000
end Go.Proofs.YtllfloapiliheaaDoor.Bits
