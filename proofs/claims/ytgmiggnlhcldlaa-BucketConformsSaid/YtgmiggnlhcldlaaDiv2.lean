/- math/bits: Div64, whole. -/
import Derived.Test.YtgmiggnlhcldlaaDiv
import Derived.Test.YtgmiggnlhcldlaaDivPlain2
namespace Go.Proofs.Ytgmiggnlhcldlaa.Bits
open Go.RowKit Go.Proofs
open Go.Proofs.Ytgmiggnlhcldlaa.Div

theorem bits_or_high (x z s : Nat) (hx : x * 2 ^ s < 18446744073709551616) (hz : z < 2 ^ s) (hz2 : z < 18446744073709551616) :
    bits .or .u64 ((x * 2 ^ s : Nat) : Int) (z : Int) = ((x * 2 ^ s + z : Nat) : Int) := by
  have e : x * 2 ^ s ||| z = x * 2 ^ s + z := by
    rw [Nat.mul_comm x, Nat.two_pow_add_eq_or_of_lt hz]
  have hlt : x * 2 ^ s + z < 18446744073709551616 := by
    rw [← e]; exact Nat.or_lt_two_pow (n := 64) hx hz2
  have h3 : (BitVec.ofInt 64 ((x * 2 ^ s : Nat) : Int) ||| BitVec.ofInt 64 (z : Int)).toNat = x * 2 ^ s + z := by
    rw [BitVec.toNat_or, BitVec.ofInt_natCast, BitVec.toNat_ofNat, BitVec.ofInt_natCast, BitVec.toNat_ofNat, Nat.mod_eq_of_lt hx, Nat.mod_eq_of_lt hz2, e]
  have h4 : bits .or .u64 ((x * 2 ^ s : Nat) : Int) (z : Int) = IntKind.u64.wrap (((BitVec.ofInt 64 ((x * 2 ^ s : Nat) : Int) ||| BitVec.ofInt 64 (z : Int)).toNat : Nat) : Int) := rfl
  rw [h4, h3]
  exact wrapN _ hlt

theorem pow_split {s : Nat} (hs : s ≤ 64) : 2 ^ (64 - s) * 2 ^ s = 18446744073709551616 := by
  rw [← Nat.pow_add, Nat.sub_add_cancel hs]

theorem divs (n : Nat) {Y : Nat} (h : 0 < Y) : ∃ q r, q = n / Y ∧ n = q * Y + r ∧ r < Y := ⟨_, _, rfl, by rw [Nat.mul_comm]; exact (Nat.div_add_mod n Y).symm, Nat.mod_lt _ h⟩

/-- The numbers of the code. -/
theorem parts (hi lo y s : Nat) (hlt : hi < y) (hl : lo < 18446744073709551616) (hs : s ≤ 64) :
    Parts (hi * 18446744073709551616 + lo) y s (y * 2 ^ s) (hi * 2 ^ s + lo / 2 ^ (64 - s)) (lo * 2 ^ s % 18446744073709551616) := by
  have hp : 0 < 2 ^ s := Nat.two_pow_pos s
  have h64 := pow_split hs
  have hdiv : lo * 2 ^ s / 18446744073709551616 = lo / 2 ^ (64 - s) := by rw [← h64, Nat.mul_div_mul_right _ _ hp]
  have hlo := Nat.div_add_mod (lo * 2 ^ s) 18446744073709551616
  rw [hdiv] at hlo
  have eN : (hi * 18446744073709551616 + lo) * 2 ^ s = (hi * 2 ^ s + lo / 2 ^ (64 - s)) * 18446744073709551616 + lo * 2 ^ s % 18446744073709551616 := by
    rw [Nat.add_mul, Nat.add_mul, Nat.mul_right_comm hi, Nat.add_assoc, Nat.mul_comm (lo / _), hlo]
  refine ⟨rfl, eN, Nat.mod_lt _ (by omega), ?_, by omega⟩
  have h1 : (hi * 18446744073709551616 + lo) * 2 ^ s < y * 2 ^ s * 18446744073709551616 := by
    rw [Nat.mul_right_comm]
    refine Nat.mul_lt_mul_of_pos_right ?_ hp
    have : (hi + 1) * 18446744073709551616 ≤ y * 18446744073709551616 := Nat.mul_le_mul_right _ hlt
    rw [Nat.add_mul, Nat.one_mul] at this
    omega
  rw [eN] at h1
  exact Nat.lt_of_mul_lt_mul_right (Nat.lt_of_le_of_lt (Nat.le_add_right _ _) h1)

theorem andN (n : Nat) (h : n < 18446744073709551616) : bits .and .u64 (n : Int) 4294967295 = ((n % 4294967296 : Nat) : Int) := maskN n h
theorem wrapI (x : Int) (n : Nat) (h : x % 18446744073709551616 = (n : Int)) : IntKind.u64.wrap x = (n : Int) := by rw [IntKind.wrap_u64]; exact h
theorem wrapNN (n : Nat) : IntKind.u64.wrap (n : Int) = ((n % 18446744073709551616 : Nat) : Int) := wrapM n

theorem litN (n : Nat) : IntKind.u64.wrap ((n : Int) * 4294967296) = ((n * 4294967296 % 18446744073709551616 : Nat) : Int) := by
  rw [show (n : Int) * 4294967296 = ((n * 4294967296 : Nat) : Int) from (Int.natCast_mul n 4294967296).symm]; exact wrapNN _

set_option maxHeartbeats 1000000
theorem div64 (hi lo y : Nat) (hlt : hi < y) (hl : lo ≤ 18446744073709551615) (hy : y ≤ 18446744073709551615) (w : World) :
    Calls Try.prog 65 #[.int .u64 hi, .int .u64 lo, .int .u64 y] w fun e w' => e = .returned (.tuple #[.int .u64 ((hi * 18446744073709551616 + lo) / y : Nat), .int .u64 ((hi * 18446744073709551616 + lo) % y : Nat)]) ∧ ∃ k, w' = w.drewN k := by
  rcases Nat.eq_zero_or_pos hi with rfl | hh
  · have h := div64_zero lo y hlt hl hy w
    rw [Nat.zero_mul, Nat.zero_add]
    exact h
  obtain ⟨b1, b2⟩ := bitLen_spec y y (Nat.le_refl _) (by omega)
  obtain ⟨b3, b4⟩ := b2 (by omega)
  have b5 := bitLen_le y (by omega)
  obtain ⟨s, hs⟩ : ∃ s, 64 - Lib.bitLen y = s := ⟨_, rfl⟩
  have hs63 : s ≤ 63 := by omega
  have hp : 0 < 2 ^ s := Nat.two_pow_pos s
  have P := parts hi lo y s hlt (by omega) (by omega)
  have hY1 : y * 2 ^ s < 18446744073709551616 := by
    have h1 : y * 2 ^ s < 2 ^ Lib.bitLen y * 2 ^ s := Nat.mul_lt_mul_of_pos_right b1 hp
    rw [← Nat.pow_add, show Lib.bitLen y + s = 64 by omega] at h1
    exact h1
  have hY2 : 9223372036854775808 ≤ y * 2 ^ s := by
    have h1 : 2 ^ (Lib.bitLen y - 1) * 2 ^ s ≤ y * 2 ^ s := Nat.mul_le_mul_right _ b4
    rw [← Nat.pow_add, show Lib.bitLen y - 1 + s = 63 by omega] at h1
    exact h1
  have hu2 : hi * 2 ^ s < 18446744073709551616 := Nat.lt_of_le_of_lt (Nat.le_trans (Nat.le_add_right _ _) (Nat.le_of_lt P.low)) hY1
  have hlow : lo / 2 ^ (64 - s) < 2 ^ s := by
    rw [Nat.div_lt_iff_lt_mul (Nat.two_pow_pos _), Nat.mul_comm, pow_split (by omega)]; omega
  have eor := bits_or_high hi (lo / 2 ^ (64 - s)) s hu2 hlow (Nat.lt_of_le_of_lt (Nat.div_le_self _ _) (by omega))
  have c1 : ((hi * 2 ^ s : Nat) : Int) = (hi : Int) * 2 ^ s := by push_cast; rfl
  have c2 : ((lo / 2 ^ (64 - s) : Nat) : Int) = (lo : Int) / 2 ^ (64 - s) := by push_cast; rfl
  have c3 : ((lo * 2 ^ s : Nat) : Int) = (lo : Int) * 2 ^ s := by push_cast; rfl
  have c4 : ((y * 2 ^ s : Nat) : Int) = (y : Int) * 2 ^ s := by push_cast; rfl
  have eL : IntKind.u64.wrap ((lo : Int) * 2 ^ s) = ((lo * 2 ^ s % 18446744073709551616 : Nat) : Int) := by rw [← c3]; exact wrapNN _
  have eY : IntKind.u64.wrap ((y : Int) * 2 ^ s) = ((y * 2 ^ s : Nat) : Int) := by rw [← c4]; exact wrapN _ hY1
  have eu : bits .or .u64 (IntKind.u64.wrap ((hi : Int) * 2 ^ s)) ((lo : Int) / 2 ^ (64 - s)) = ((hi * 2 ^ s + lo / 2 ^ (64 - s) : Nat) : Int) := by
    rw [← c1, ← c2, wrapN _ hu2]; exact eor
  clear eor c1 c2 c3 c4 b1 b2 b3 b4 hlow hu2
  generalize hi * 2 ^ s + lo / 2 ^ (64 - s) = u at *
  generalize lo * 2 ^ s % 18446744073709551616 = L at *
  generalize y * 2 ^ s = Y at *
  have hLt := P.lt
  have hlow := P.low
  have eYab : Y = Y / 4294967296 * 4294967296 + Y % 4294967296 := by omega
  have eLd : L = L / 4294967296 * 4294967296 + L % 4294967296 := by omega
  have hYp : 0 < Y := by omega
  obtain ⟨Q, R, hQ, q1, m1⟩ := divs (u * 4294967296 + L / 4294967296) hYp
  obtain ⟨Q0, R0, hQ0, q2, m2⟩ := divs (R * 4294967296 + L % 4294967296) hYp
  obtain ⟨g1, g2⟩ := quot P eLd q1 q2 m2
  have hN1 : (hi * 18446744073709551616 + lo) / y < 18446744073709551616 := by
    rw [Nat.div_lt_iff_lt_mul (by omega)]
    have h1 : (hi + 1) * 18446744073709551616 ≤ y * 18446744073709551616 := Nat.mul_le_mul_right _ hlt
    rw [Nat.add_mul, Nat.one_mul, Nat.mul_comm y] at h1
    omega
  have w1 := wraps (u * 4294967296) (Q * Y) (L / 4294967296) R q1 (Nat.lt_trans m1 hY1)
  have w2 := wraps (R * 4294967296) (Q0 * Y) (L % 4294967296) R0 q2 (Nat.lt_trans m2 hY1)
  rw [g1, g2]
  rw [g1] at hN1
  refine div64_walk hi lo y s Y (Y / 4294967296) (Y % 4294967296) L (L / 4294967296) (L % 4294967296) u Q R Q0 (Q * 4294967296 + Q0) (R0 / 2 ^ s) (u * 4294967296 % 18446744073709551616) ((u * 4294967296 % 18446744073709551616 + L / 4294967296) % 18446744073709551616) (Q * Y % 18446744073709551616)
    (Q * 4294967296 % 18446744073709551616) (R * 4294967296 % 18446744073709551616) ((R * 4294967296 % 18446744073709551616 + L % 4294967296) % 18446744073709551616) (Q0 * Y % 18446744073709551616) R0
    hh hlt hl hy hs63 hs w eY rfl (andN Y hY1) (by omega) eL rfl (andN L hLt) eu (Nat.mod_lt _ (by omega)) (by omega) (by omega) (by omega) ?_ ?_ ?_ ?_ ?_ (by omega) (Nat.mod_lt _ (by omega)) ?_ ?_ ?_ ?_ ?_ ?_ ?_ ?_
  · show Q = _
    rw [← eYab]; exact hQ
  · exact litN u
  · rw [addN]; exact wrapNN _
  · rw [mulN]; exact wrapNN _
  · exact wrapI _ _ w1
  · show Q0 = _
    rw [← eYab]; exact hQ0
  · exact litN Q
  · rw [addN, Nat.mod_eq_of_lt (Nat.lt_of_le_of_lt (Nat.le_add_right _ _) hN1)]; exact wrapN _ hN1
  · exact litN R
  · rw [addN]; exact wrapNN _
  · rw [mulN]; exact wrapNN _
  · exact wrapI _ _ w2
  · push_cast; rfl
end Go.Proofs.Ytgmiggnlhcldlaa.Bits
