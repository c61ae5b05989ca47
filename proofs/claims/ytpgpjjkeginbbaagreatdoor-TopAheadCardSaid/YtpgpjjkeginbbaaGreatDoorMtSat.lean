/- Bits, Len, SatT, BuckT, one behind the other. -/
import Derived.Test.YtpgpjjkeginbbaaGreatDoorProg
import Derived.Test.YtpgpjjkeginbbaaGreatDoorMtA
import Derived.Lib.Mul64
import Derived.Lib.Hide
import Derived.Laws.Externs
import Derived.Laws.MathBits
import Derived.Lib.Tables
import Derived.Lib.BitFns
namespace Go.Proofs.YtpgpjjkeginbbaaGreatDoor.Bits
open Go.RowKit Go.Proofs

theorem maskN (a : Nat) (ha : a < 18446744073709551616) : bits .and .u64 (a : Int) 4294967295 = ((a % 4294967296 : Nat) : Int) := by
 rw [and_low32 a (by omega) (by omega)]; rfl
theorem divN (a : Nat) : (a : Int) / 4294967296 = ((a / 4294967296 : Nat) : Int) := rfl
theorem mulN (a b : Nat) : (a : Int) * (b : Int) = ((a * b : Nat) : Int) := (Int.natCast_mul a b).symm
theorem addN (a b : Nat) : (a : Int) + (b : Int) = ((a + b : Nat) : Int) := (Int.natCast_add a b).symm
theorem wrapN (a : Nat) (ha : a < 18446744073709551616) : IntKind.u64.wrap (a : Int) = (a : Int) := by rw [IntKind.wrap_u64]; omega
theorem wrapM (a : Nat) : IntKind.u64.wrap (a : Int) = ((a % 18446744073709551616 : Nat) : Int) := by rw [IntKind.wrap_u64]; omega

set_option maxHeartbeats 1000000
theorem mul64 (x y : Nat) (hx : x < 18446744073709551616) (hy : y < 18446744073709551616) (w : World) :
 Calls Tryz.prog 145 #[.int .u64 x, .int .u64 y] w fun e w' => e = .returned (.tuple #[.int .u64 (x * y / 18446744073709551616 : Nat), .int .u64 (x * y % 18446744073709551616 : Nat)]) ∧ w = w' := by
 obtain ⟨bd, bt, bw, hhi⟩ := Lib.mul64_hi x y hx hy
 have ba := Lib.half_mul_le (a := x / 4294967296) (b := y / 4294967296) (by omega) (by omega)
 have bb := Lib.half_mul_le (a := x / 4294967296) (b := y % 4294967296) (by omega) (by omega)
 have bc := Lib.half_mul_le (a := x % 4294967296) (b := y / 4294967296) (by omega) (by omega)
 have ba' : x / 4294967296 * (y / 4294967296) < 18446744073709551616 := by omega
 have bb' : x / 4294967296 * (y % 4294967296) < 18446744073709551616 := by omega
 have bc' : x % 4294967296 * (y / 4294967296) < 18446744073709551616 := by omega
 have bh1 : x / 4294967296 * (y / 4294967296) + (x / 4294967296 * (y % 4294967296) + x % 4294967296 * (y % 4294967296) / 4294967296) / 4294967296 < 18446744073709551616 := by omega
 have bh : x / 4294967296 * (y / 4294967296) + (x / 4294967296 * (y % 4294967296) + x % 4294967296 * (y % 4294967296) / 4294967296) / 4294967296 + ((x / 4294967296 * (y % 4294967296) + x % 4294967296 * (y % 4294967296) / 4294967296) % 4294967296 + x % 4294967296 * (y / 4294967296)) / 4294967296 < 18446744073709551616 := by omega
 go_enter Tryz.func145, Tryz.ntmps145
 go_wp2
 simp only [maskN x hx, maskN y hy, divN, mulN, addN, wrapN _ bd, wrapN _ bb', wrapN _ bt, maskN _ bt, wrapN _ bc', wrapN _ bw, wrapN _ ba', wrapN _ bh1, wrapN _ bh, wrapM (x * y)]
 rw [hhi]
 go_ret2
 exact ⟨rfl, rfl⟩

theorem run_add (x y : Nat) (w : World) : (callFunc 69 #[.int .u64 x, .int .u64 y, .int .u64 0]).run Tryz.prog w =
 .ok (.value (.tuple #[.int .u64 ((x + y) % 18446744073709551616 : Nat), .int .u64 ((x + y) / 18446744073709551616 : Nat)])) w := by
 rw [run_callFunc_extern (e := add64Entry) Tryz.func69 (by kernel_rfl) (by kernel_rfl) (by kernel_rfl) (by kernel_rfl)]
 have h := run_add64 (P := Tryz.prog) x y 0 (by omega) (by omega) (by omega) (by omega) w
 rw [h]
 simp [Result.andThen]

theorem sat_add (x y : Nat) (w : World) (hx : x ≤ 18446744073709551615) (hy : y ≤ 18446744073709551615) :
 Calls Tryz.prog 36 #[.int .u64 x, .int .u64 y] w fun e w' => e = .returned (.int .u64 (min (x + y) 18446744073709551615 : Nat)) ∧ w = w' := by
 have hc := run_add x y
 rcases Nat.lt_or_ge (x + y) 18446744073709551616 with hlt | hge
 · have e1 : (x + y) % 18446744073709551616 = x + y := Nat.mod_eq_of_lt hlt
   have e2 : (x + y) / 18446744073709551616 = 0 := Nat.div_eq_of_lt hlt
   have e3 : min (x + y) 18446744073709551615 = x + y := by omega
   rw [e1, e2] at hc
   rw [e3]
   clear e1 e2 e3 hlt hx hy
   generalize x + y = z at hc ⊢
   go_enter Tryz.func36, Tryz.ntmps36
   go_wp2
   go_ret
   exact ⟨rfl, rfl⟩
 · have e2 : (x + y) / 18446744073709551616 = 1 := by omega
   have e3 : min (x + y) 18446744073709551615 = 18446744073709551615 := by omega
   rw [e2] at hc
   rw [e3]
   generalize (x + y) % 18446744073709551616 = z at hc
   clear e2 e3 hge hx hy
   go_enter Tryz.func36, Tryz.ntmps36
   go_wp2
   go_ret
   exact ⟨rfl, rfl⟩
end Go.Proofs.YtpgpjjkeginbbaaGreatDoor.Bits
namespace Go.Proofs.YtpgpjjkeginbbaaGreatDoor.Bits
open Go.RowKit Go.Proofs
theorem get_len (i : Int) (h0 : 0 ≤ i) (h1 : i ≤ 255) {h : i.toNat < Lib.len8tab.size} : (((Lib.len8tab[i.toNat]'h).toNat : Nat) : Int) = (Lib.bitLen i.toNat : Nat) := by
 have e := Lib.len8_of i h0 h1
 rw [← e]
 simp only [Lib.len8, ByteArray.getElem?_lt' _ _ h, Option.getD_some]
theorem le_len (n : Nat) (h : n ≤ 255) : Lib.bitLen n ≤ 8 := Lib.bitLen_le8 ⟨n, by omega⟩
theorem wrap_len (k : Int) (K L : Nat) (hkK : k = K) (hk : K ≤ 64) (hL : L ≤ 8) : wrap64 (k + wrap64 (L : Int)) = ((K + L : Nat) : Int) := by
 subst hkK
 have e1 : wrap64 (L : Int) = L := IntWalk.wrap64_in _ ⟨by omega, by omega⟩
 rw [e1, IntWalk.wrap64_in _ ⟨by omega, by omega⟩]
 omega
theorem wrap_len0 (L : Nat) (hL : L ≤ 8) : wrap64 (wrap64 (L : Int)) = (L : Int) := by
 have e1 : wrap64 (L : Int) = L := IntWalk.wrap64_in _ ⟨by omega, by omega⟩
 rw [e1, IntWalk.wrap64_in _ ⟨by omega, by omega⟩]
set_option maxHeartbeats 4000000
set_option maxRecDepth 100000
theorem len64 (x : Int) (w : World) (h0 : 0 ≤ x) (h1 : x ≤ 18446744073709551615) :
 Calls Tryz.prog 156 #[.int .u64 x] w fun e w' => e = .returned (.int .i64 (Lib.bitLen x.toNat)) ∧ w = w' := by
 go_enter Tryz.func156, Tryz.ntmps156
 go_wp2
 all_goals first
  | (go_ret; refine ⟨congrArg Ending.returned (congrArg (Value.int IntKind.i64) ?_), rfl⟩)
  | (exfalso
     have hs := Lib.len8tab_size
     omega)
 all_goals first
  | (rw [get_len (x / 4294967296 / 65536 / 256) (by omega) (by omega)]
     have e : (x / 4294967296 / 65536 / 256).toNat = x.toNat / 72057594037927936 := by omega
     have s := Lib.bitLen_shift56 x.toNat (by omega) (by omega)
     have l := le_len (x.toNat / 72057594037927936) (by omega)
     rw [e, s]
     exact wrap_len _ _ _ rfl (by omega) (by omega))
  | (rw [get_len (x / 4294967296 / 65536) (by omega) (by omega)]
     have e : (x / 4294967296 / 65536).toNat = x.toNat / 281474976710656 := by omega
     have s := Lib.bitLen_shift48 x.toNat (by omega) (by omega)
     have l := le_len (x.toNat / 281474976710656) (by omega)
     rw [e, s]
     exact wrap_len _ _ _ rfl (by omega) (by omega))
  | (rw [get_len (x / 4294967296 / 256) (by omega) (by omega)]
     have e : (x / 4294967296 / 256).toNat = x.toNat / 1099511627776 := by omega
     have s := Lib.bitLen_shift40 x.toNat (by omega) (by omega)
     have l := le_len (x.toNat / 1099511627776) (by omega)
     rw [e, s]
     exact wrap_len _ _ _ rfl (by omega) (by omega))
  | (rw [get_len (x / 4294967296) (by omega) (by omega)]
     have e : (x / 4294967296).toNat = x.toNat / 4294967296 := by omega
     have s := Lib.bitLen_shift32 x.toNat (by omega) (by omega)
     have l := le_len (x.toNat / 4294967296) (by omega)
     rw [e, s]
     exact wrap_len _ _ _ rfl (by omega) (by omega))
  | (rw [get_len (x / 65536 / 256) (by omega) (by omega)]
     have e : (x / 65536 / 256).toNat = x.toNat / 16777216 := by omega
     have s := Lib.bitLen_shift24 x.toNat (by omega) (by omega)
     have l := le_len (x.toNat / 16777216) (by omega)
     rw [e, s]
     exact wrap_len _ _ _ rfl (by omega) (by omega))
  | (rw [get_len (x / 65536) (by omega) (by omega)]
     have e : (x / 65536).toNat = x.toNat / 65536 := by omega
     have s := Lib.bitLen_shift16 x.toNat (by omega) (by omega)
     have l := le_len (x.toNat / 65536) (by omega)
     rw [e, s]
     exact wrap_len _ _ _ rfl (by omega) (by omega))
  | (rw [get_len (x / 256) (by omega) (by omega)]
     have e : (x / 256).toNat = x.toNat / 256 := by omega
     have s := Lib.bitLen_shift8 x.toNat (by omega) (by omega)
     have l := le_len (x.toNat / 256) (by omega)
     rw [e, s]
     exact wrap_len _ _ _ rfl (by omega) (by omega))
  | (rw [get_len x (by omega) (by omega)]
     have l := le_len x.toNat (by omega)
     exact wrap_len0 _ (by omega))

/-- How many bits: between which powers of 2 a number lies. -/
theorem bitLen_spec : ∀ (n x : Nat), x ≤ n → x < 18446744073709551616 → x < 2 ^ Lib.bitLen x ∧ (x ≠ 0 → 1 ≤ Lib.bitLen x ∧ 2 ^ (Lib.bitLen x - 1) ≤ x) := by
 intro n
 induction n with
 | zero => intro x hx _; obtain rfl : x = 0 := by omega
           exact ⟨by decide, fun h => absurd rfl h⟩
 | succ n ih =>
   intro x hx hlt
   by_cases h0 : x = 0
   · subst h0; exact ⟨by decide, fun h => absurd rfl h⟩
   · have hh := Lib.bitLen_half x h0 (by simpa using hlt)
     obtain ⟨i1, i2⟩ := ih (x / 2) (by omega) (by omega)
     rw [hh]
     have e : 2 ^ (1 + Lib.bitLen (x / 2)) = 2 * 2 ^ Lib.bitLen (x / 2) := by rw [Nat.pow_add]
     refine ⟨by rw [e]; omega, fun _ => ⟨by omega, ?_⟩⟩
     rw [show 1 + Lib.bitLen (x / 2) - 1 = Lib.bitLen (x / 2) by omega]
     by_cases h2 : x / 2 = 0
     · rw [h2]; have : Lib.bitLen 0 = 0 := by decide
       rw [this]; simp; omega
     · obtain ⟨j1, j2⟩ := i2 h2
       have e2 : 2 ^ Lib.bitLen (x / 2) = 2 * 2 ^ (Lib.bitLen (x / 2) - 1) := by
        obtain ⟨m, hm⟩ : ∃ m, Lib.bitLen (x / 2) = m + 1 := ⟨Lib.bitLen (x / 2) - 1, by omega⟩
        rw [hm, Nat.add_sub_cancel, Nat.pow_succ, Nat.mul_comm]
       omega
theorem bitLen_le (x : Nat) (h : x < 18446744073709551616) : Lib.bitLen x ≤ 64 := by
 obtain ⟨_, h2⟩ := bitLen_spec x x (Nat.le_refl _) h
 by_cases h0 : x = 0
 · subst h0; decide
 · obtain ⟨h3, h4⟩ := h2 h0
   rcases Nat.lt_or_ge 64 (Lib.bitLen x) with hlt | hge
   · exfalso
     have h5 : 2 ^ 64 ≤ 2 ^ (Lib.bitLen x - 1) := Nat.pow_le_pow_right (by omega) (by omega)
     have h6 : (2 : Nat) ^ 64 = 18446744073709551616 := by decide
     omega
   · exact hge

end Go.Proofs.YtpgpjjkeginbbaaGreatDoor.Bits
namespace Go.Proofs.YtpgpjjkeginbbaaGreatDoor.Sat
open Go.RowKit Go.Proofs BigFrame
open Bits (mul64 sat_add mulN addN wrapN wrapM)
theorem sat_sub (a b : Nat) (ha : a ≤ 18446744073709551615) (hb : b ≤ 18446744073709551615) (w : World) :
 Calls Tryz.prog 110 #[.int .u64 a, .int .u64 b] w fun e w' => e = .returned (.int .u64 (a - b : Nat)) ∧ w = w' := by
 rcases Nat.lt_or_ge a b with hlt | hge
 · have e1 : a - b = 0 := by omega
   rw [e1]
   go_enter Tryz.func110, Tryz.ntmps110
   go_wp2
   go_ret
   exact ⟨rfl, rfl⟩
 · have e1 : IntKind.u64.wrap ((a : Int) - (b : Int)) = ((a - b : Nat) : Int) := by rw [IntKind.wrap_u64]; omega
   have e2 : ((a - b : Nat) : Int) = (a : Int) - (b : Int) := by omega
   go_enter Tryz.func110, Tryz.ntmps110
   go_wp2
   go_ret
   exact ⟨by simp [e2], rfl⟩

theorem sat_mul (a b : Nat) (ha : a ≤ 18446744073709551615) (hb : b ≤ 18446744073709551615) (w : World) :
 Calls Tryz.prog 114 #[.int .u64 a, .int .u64 b] w fun e w' => e = .returned (.int .u64 (min (a * b) 18446744073709551615 : Nat)) ∧ w = w' := by
 have h1 := fun u => Lib.hid (mul64 a b (by omega) (by omega) u)
 generalize a * b = m at *
 rcases Nat.eq_zero_or_pos (m / 18446744073709551616) with h0 | hp
 · have e1 : m % 18446744073709551616 = m := by omega
   have e2 : min m 18446744073709551615 = m := by omega
   rw [h0, e1] at h1
   rw [e2]
   clear h0 e1 e2 ha hb
   go_enter Tryz.func114, Tryz.ntmps114
   go_wp2_with fail
   refine (h1 _).out.mono ?_
   rintro e w' ⟨rfl, rfl⟩
   go_wp2_with fail
   go_ret
   exact ⟨rfl, rfl⟩
 · have e2 : min m 18446744073709551615 = 18446744073709551615 := by omega
   rw [e2]
   generalize m / 18446744073709551616 = q at *
   generalize m % 18446744073709551616 = r at *
   clear e2 ha hb
   go_enter Tryz.func114, Tryz.ntmps114
   go_wp2_with fail
   refine (h1 _).out.mono ?_
   rintro e w' ⟨rfl, rfl⟩
   go_wp2_with fail
   go_ret
   exact ⟨rfl, rfl⟩

theorem cap_add (a m : Nat) : min (a + min m 18446744073709551615) 18446744073709551615 = min (a + m) 18446744073709551615 := by omega

theorem sat_muladd (a b c : Nat) (ha : a ≤ 18446744073709551615) (hb : b ≤ 18446744073709551615) (hc : c ≤ 18446744073709551615) (w : World) :
 Calls Tryz.prog 70 #[.int .u64 a, .int .u64 b, .int .u64 c] w fun e w' => e = .returned (.int .u64 (min (a + b * c) 18446744073709551615 : Nat)) ∧ w = w' := by
 have h1 := fun u => Lib.hid (sat_mul b c hb hc u)
 have h2 := fun u => Lib.hid (sat_add a (min (b * c) 18446744073709551615) u ha (Nat.min_le_right _ _))
 rw [cap_add] at h2
 generalize min (b * c) 18446744073709551615 = m at *
 generalize min (a + b * c) 18446744073709551615 = n at *
 clear ha hb hc
 go_enter Tryz.func70, Tryz.ntmps70
 go_wp2_with fail
 refine (h1 _).out.mono ?_
 rintro e w' ⟨rfl, rfl⟩
 go_wp2_with fail
 refine (h2 _).out.mono ?_
 rintro e w' ⟨rfl, rfl⟩
 go_wp2_with fail
 go_ret
 exact ⟨rfl, rfl⟩

open Bits (len64 bitLen_le wrapN)

/-- Doublings, capped. -/
def shl (a : Nat) (n : Int) : Nat := min (a * 2 ^ (min n.toNat 64)) 18446744073709551615

theorem shl_same (a : Nat) (n : Int) (ha : a ≤ 18446744073709551615) (h : a = 0 ∨ n ≤ 0) : shl a n = a := by
 rcases h with rfl | h
 · simp [shl]
 · simp only [shl, Int.toNat_of_nonpos h, Nat.zero_min, Nat.pow_zero, Nat.mul_one]; omega
theorem shl_big (a : Nat) (n : Int) (h0 : 0 < a) (h : 64 ≤ n) : shl a n = 18446744073709551615 := by
 have e : min n.toNat 64 = 64 := by omega
 simp only [shl, e, Nat.reducePow]; omega
theorem shl_over (a k : Nat) (h0 : 0 < a) (ha : a ≤ 18446744073709551615) (hk : k < 64) (h : 64 < Lib.bitLen a + k) : shl a (k : Int) = 18446744073709551615 := by
 obtain ⟨_, b2⟩ := Go.Proofs.YtpgpjjkeginbbaaGreatDoor.Bits.bitLen_spec a a (Nat.le_refl _) (by omega)
 have b4 := (b2 (by omega)).2
 have b3 := (b2 (by omega)).1
 have e : min (k : Int).toNat 64 = k := by omega
 have h1 : 2 ^ (Lib.bitLen a - 1) * 2 ^ k ≤ a * 2 ^ k := Nat.mul_le_mul_right _ b4
 rw [← Nat.pow_add] at h1
 have h2 : 2 ^ 64 ≤ 2 ^ (Lib.bitLen a - 1 + k) := Nat.pow_le_pow_right (by omega) (by omega)
 simp only [shl, e]
 simp only [Nat.reducePow] at h2
 omega
theorem shl_in (a k : Nat) (ha : a ≤ 18446744073709551615) (hk : k < 64) (h : Lib.bitLen a + k ≤ 64) : shl a (k : Int) = a * 2 ^ k ∧ a * 2 ^ k < 18446744073709551616 := by
 obtain ⟨b1, _⟩ := Go.Proofs.YtpgpjjkeginbbaaGreatDoor.Bits.bitLen_spec a a (Nat.le_refl _) (by omega)
 have e : min (k : Int).toNat 64 = k := by omega
 have h1 : a * 2 ^ k < 2 ^ Lib.bitLen a * 2 ^ k := Nat.mul_lt_mul_of_pos_right b1 (Nat.two_pow_pos k)
 rw [← Nat.pow_add] at h1
 have h2 : 2 ^ (Lib.bitLen a + k) ≤ 2 ^ 64 := Nat.pow_le_pow_right (by omega) h
 simp only [Nat.reducePow] at h2
 simp only [shl, e]
 omega

set_option maxHeartbeats 1000000
theorem sat_shift (a : Nat) (n : Int) (ha : a ≤ 18446744073709551615) (h1 : -9223372036854775808 ≤ n) (h2 : n ≤ 9223372036854775807) (w : World) :
 Calls Tryz.prog 143 #[.int .u64 a, .int .i64 n] w fun e w' => e = .returned (.int .u64 (shl a n : Nat)) ∧ w = w' := by
 rcases Nat.eq_zero_or_pos a with rfl | hap
 · rw [shl_same 0 n ha (Or.inl rfl)]
   go_enter Tryz.func143, Tryz.ntmps143
   go_wp2
   go_ret
   exact ⟨rfl, rfl⟩
 rcases Int.lt_or_le 0 n with hn | hn
 case inr =>
  rw [shl_same a n ha (Or.inr hn)]
  go_enter Tryz.func143, Tryz.ntmps143
  go_wp2
  go_ret
  exact ⟨rfl, rfl⟩
 rcases Int.lt_or_le n 64 with hm | hm
 case inr =>
  rw [shl_big a n hap hm]
  have d1 : ((a : Int) == 0) = false := by simp; omega
  have d2 : decide (n ≤ 0) = false := by simp; omega
  have d3 : ((a : Int) == 0 || decide (n ≤ 0)) = false := by rw [d1, d2]; rfl
  go_enter Tryz.func143, Tryz.ntmps143
  go_wp2
  go_ret
  exact ⟨rfl, rfl⟩
 obtain ⟨k, rfl⟩ : ∃ k : Nat, n = (k : Int) := ⟨n.toNat, by omega⟩
 have hk : k < 64 := by omega
 have d1 : ((a : Int) == 0) = false := by simp; omega
 have d2 : decide (k = 0) = false := by simp; omega
 have d3 : ((a : Int) == 0 || decide (k = 0)) = false := by rw [d1, d2]; rfl
 have d4 : decide ((k : Int) ≤ 0) = false := by simp; omega
 have d5 : ((a : Int) == 0 || decide ((k : Int) ≤ 0)) = false := by rw [d1, d4]; rfl
 have hl := fun u => Lib.hid (len64 (a : Int) u (by omega) (by omega))
 have hb := bitLen_le a (by omega)
 rw [show (a : Int).toNat = a from by omega] at hl
 rcases Nat.lt_or_ge 64 (Lib.bitLen a + k) with ho | ho
 · rw [shl_over a k hap ha hk ho]
   generalize Lib.bitLen a = L at *
   have e1 : wrap64 ((L : Int) + (k : Int)) = ((L + k : Nat) : Int) := by rw [IntWalk.wrap64_in _ ⟨by omega, by omega⟩]; omega
   go_enter Tryz.func143, Tryz.ntmps143
   go_wp2_with fail
   refine (hl _).out.mono ?_
   rintro e w' ⟨rfl, rfl⟩
   go_wp2_with fail
   go_ret
   exact ⟨rfl, rfl⟩
 · obtain ⟨g1, g2⟩ := shl_in a k ha hk ho
   rw [g1]
   generalize Lib.bitLen a = L at *
   have e1 : wrap64 ((L : Int) + (k : Int)) = ((L + k : Nat) : Int) := by rw [IntWalk.wrap64_in _ ⟨by omega, by omega⟩]; omega
   have c1 : ((a * 2 ^ k : Nat) : Int) = (a : Int) * 2 ^ k := by push_cast; rfl
   have e2 : IntKind.u64.wrap ((a : Int) * 2 ^ k) = ((a * 2 ^ k : Nat) : Int) := by rw [← c1]; exact wrapN _ g2
   clear c1
   generalize a * 2 ^ k = z at *
   go_enter Tryz.func143, Tryz.ntmps143
   go_wp2_with fail
   refine (hl _).out.mono ?_
   rintro e w' ⟨rfl, rfl⟩
   go_wp2_with fail
   go_ret
   exact ⟨rfl, rfl⟩

end Go.Proofs.YtpgpjjkeginbbaaGreatDoor.Sat
namespace Go.Proofs.YtpgpjjkeginbbaaGreatDoor.Bucket
open Go.RowKit Go.Proofs BigFrame
set_option maxHeartbeats 1000000
set_option maxRecDepth 100000
/-- A call that returns a value and writes nowhere. -/
abbrev Gives (w : World) (v : Value) (e : Ending) (w' : World) : Prop := e = .returned v ∧ Upd Nowhere w w'
/-- Whether a bucket may be. -/
def chk (r b t : Nat) : Nat := if r = 0 then 27 else if b = 0 ∨ b < t then 28 else 0
theorem chk_ok {r b t : Nat} : chk r b t = 0 ↔ 0 < r ∧ 0 < b ∧ t ≤ b := by
 unfold chk; split <;> (try split) <;> omega
theorem check_any (r b t : Nat) (w : World) : Calls Tryz.prog 59 #[.agg #[.int .u64 r, .int .u64 b, .int .u64 t]] w fun e w' => Gives w (.int .i64 (chk r b t : Nat)) e w' := by
 rcases Nat.eq_zero_or_pos r with rfl | hr
 · have e : chk 0 b t = 27 := rfl
   rw [e]
   go_enter Tryz.func59, Tryz.ntmps59
   go_wp2_with fail
   go_ret
   exact ⟨rfl, (Upd.refl _ _).alloc _⟩
 · have er : ((r : Int) == 0) = false := by simp; omega
   rcases Nat.eq_zero_or_pos b with rfl | hb
   · have e : chk r 0 t = 28 := by unfold chk; rw [if_neg (by omega)]; simp
     rw [e]
     go_enter Tryz.func59, Tryz.ntmps59
     go_wp2_with fail
     go_ret
     exact ⟨rfl, (Upd.refl _ _).alloc _⟩
   · have eb : ((b : Int) == 0) = false := by simp; omega
     rcases Nat.lt_or_ge b t with ht | ht
     · have e : chk r b t = 28 := by unfold chk; rw [if_neg (by omega), if_pos (by omega)]
       rw [e]
       go_enter Tryz.func59, Tryz.ntmps59
       go_wp2_with fail
       go_ret
       exact ⟨rfl, (Upd.refl _ _).alloc _⟩
     · have e : chk r b t = 0 := by rw [chk_ok]; omega
       rw [e]
       go_enter Tryz.func59, Tryz.ntmps59
       go_wp2_with fail
       go_ret
       exact ⟨rfl, (Upd.refl _ _).alloc _⟩
theorem tick_ok (r b t n : Nat) (hr : r ≤ 18446744073709551615) (hb : b ≤ 18446744073709551615) (hn : n ≤ 18446744073709551615) (hc : chk r b t = 0) (w : World) : Calls Tryz.prog 37 #[.agg #[.int .u64 r, .int .u64 b, .int .u64 t], .int .u64 n] w fun e w' => Gives w (.agg #[.int .u64 r, .int .u64 b, .int .u64 (min (t + r * n) b : Nat)]) e w' := by
 have ht := (chk_ok.1 hc).2.2
 have h1 := fun u => check_any r b t u
 rw [hc] at h1
 have H1 := fun u => Lib.hid (h1 u)
 have H2 := fun u => Lib.hid (Sat.sat_muladd t r n (by omega) hr hn u)
 have hm : (if b < min (t + r * n) 18446744073709551615 then (b : Int) else ((min (t + r * n) 18446744073709551615 : Nat) : Int)) = ((min (t + r * n) b : Nat) : Int) := by split <;> omega
 generalize min (t + r * n) 18446744073709551615 = z at *
 generalize min (t + r * n) b = y at *
 clear h1 hr hb hn hc ht
 go_enter Tryz.func37, Tryz.ntmps37
 go_wp2_with fail
 refine ((H1 _).out).mono ?_
 rintro e w1 ⟨rfl, u1⟩
 have hu : Upd Nowhere w w1 := (((Upd.refl _ _).alloc _).alloc _).trans u1 (fun _ _ h => h)
 obtain ⟨c0, c1, c2, z0, z1, z2⟩ := cells3 (((Blk.new w #[.int .u64 r, .int .u64 b, .int .u64 t] 89).alloc (.cells #[.int .u64 0, .int .u64 0, .int .u64 0] 89)).kept u1 id)
 obtain ⟨d0, d1, d2, y0, y1, y2⟩ := cells3 ((Blk.new2 w (.cells #[.int .u64 r, .int .u64 b, .int .u64 t] 89) #[.int .u64 0, .int .u64 0, .int .u64 0] 89).kept u1 id)
 go_wp2_with fail
 refine wp_region_tail 10 (by kernel_rfl) (by kernel_rfl) ?_
 simp only [List.take_succ_cons, List.take_zero, List.drop_succ_cons, List.drop_zero]
 repeat (go_big_quiet_step ((go_at_call 70; exact quiet_same (H2 _).out)))
 refine wpQuiet_nil ?_
 rintro _ ⟨nq, rfl⟩
 go_wp2
 refine Stage.out ?_
 go_wp2
 exact bodyPost_ret (v := .agg #[.int .u64 r, .int .u64 b, .int .u64 y]) (by simp [results, Tryz.results37, go_sem, d0, d1, d2]) rfl ⟨rfl, by repeat (first | exact hu | refine Upd.setNew ?_ (by first | exact Nat.le_refl _ | exact Nat.le_succ _ | (simp; done) | omega) _ | refine Upd.drewN ?_ _ | refine Upd.alloc ?_ _)⟩
theorem take_less (r b t n : Nat) (hc : chk r b t = 0) (hn : t < n) (w : World) : Calls Tryz.prog 66 #[.agg #[.int .u64 r, .int .u64 b, .int .u64 t], .int .u64 n] w fun e w' => Gives w (.tuple #[.agg #[.int .u64 r, .int .u64 b, .int .u64 t], .bool false]) e w' := by
 have h1 := fun u => check_any r b t u
 rw [hc] at h1
 have H1 := fun u => Lib.hid (h1 u)
 clear h1 hc
 go_enter Tryz.func66, Tryz.ntmps66
 go_wp2_with fail
 refine ((H1 _).out).mono ?_
 rintro e w1 ⟨rfl, u1⟩
 have hu : Upd Nowhere w w1 := (((Upd.refl _ _).alloc _).alloc _).trans u1 (fun _ _ h => h)
 obtain ⟨c0, c1, c2, z0, z1, z2⟩ := cells3 (((Blk.new w #[.int .u64 r, .int .u64 b, .int .u64 t] 89).alloc (.cells #[.int .u64 0, .int .u64 0, .int .u64 0] 89)).kept u1 id)
 obtain ⟨d0, d1, d2, y0, y1, y2⟩ := cells3 ((Blk.new2 w (.cells #[.int .u64 r, .int .u64 b, .int .u64 t] 89) #[.int .u64 0, .int .u64 0, .int .u64 0] 89).kept u1 id)
 go_wp2_with fail
 exact bodyPost_ret (v := .tuple #[.agg #[.int .u64 r, .int .u64 b, .int .u64 t], .bool false]) (by simp [results, Tryz.results66, go_sem, d0, d1, d2]) rfl ⟨rfl, by repeat (first | exact hu | refine Upd.setNew ?_ (by first | exact Nat.le_refl _ | exact Nat.le_succ _ | (simp; done) | omega) _ | refine Upd.drewN ?_ _ | refine Upd.alloc ?_ _)⟩
theorem take_yes (r b t n : Nat) (hc : chk r b t = 0) (ht : t ≤ 18446744073709551615) (hn : n ≤ t) (w : World) : Calls Tryz.prog 66 #[.agg #[.int .u64 r, .int .u64 b, .int .u64 t], .int .u64 n] w fun e w' => Gives w (.tuple #[.agg #[.int .u64 r, .int .u64 b, .int .u64 (t - n : Nat)], .bool true]) e w' := by
 have h1 := fun u => check_any r b t u
 rw [hc] at h1
 have H1 := fun u => Lib.hid (h1 u)
 have ew : IntKind.u64.wrap ((t : Int) - (n : Int)) = ((t - n : Nat) : Int) := by rw [IntKind.wrap_u64]; omega
 generalize t - n = d at *
 clear h1 hc ht
 go_enter Tryz.func66, Tryz.ntmps66
 go_wp2_with fail
 refine ((H1 _).out).mono ?_
 rintro e w1 ⟨rfl, u1⟩
 have hu : Upd Nowhere w w1 := (((Upd.refl _ _).alloc _).alloc _).trans u1 (fun _ _ h => h)
 obtain ⟨c0, c1, c2, z0, z1, z2⟩ := cells3 (((Blk.new w #[.int .u64 r, .int .u64 b, .int .u64 t] 89).alloc (.cells #[.int .u64 0, .int .u64 0, .int .u64 0] 89)).kept u1 id)
 obtain ⟨d0, d1, d2, y0, y1, y2⟩ := cells3 ((Blk.new2 w (.cells #[.int .u64 r, .int .u64 b, .int .u64 t] 89) #[.int .u64 0, .int .u64 0, .int .u64 0] 89).kept u1 id)
 go_wp2_with fail
 exact bodyPost_ret (v := .tuple #[.agg #[.int .u64 r, .int .u64 b, .int .u64 d], .bool true]) (by simp [results, Tryz.results66, go_sem, d0, d1, d2]) rfl ⟨rfl, by repeat (first | exact hu | refine Upd.setNew ?_ (by first | exact Nat.le_refl _ | exact Nat.le_succ _ | (simp; done) | omega) _ | refine Upd.drewN ?_ _ | refine Upd.alloc ?_ _)⟩
theorem new_ok (r b : Nat) (hc : chk r b b = 0) (w : World) : Calls Tryz.prog 25 #[.int .u64 r, .int .u64 b] w fun e w' => Gives w (.tuple #[.agg #[.int .u64 r, .int .u64 b, .int .u64 b], .int .i64 0]) e w' := by
 have h1 := fun u => check_any r b b u
 rw [hc] at h1
 have H1 := fun u => Lib.hid (h1 u)
 clear h1 hc
 go_enter Tryz.func25, Tryz.ntmps25
 go_wp2_with fail
 refine ((H1 _).out).mono ?_
 rintro e w1 ⟨rfl, u1⟩
 have hB_x1 : Blk w1 (w.heap.size) #[.int .u64 0, .int .u64 0, .int .u64 0] 89 := ((Blk.new _ _ _).alloc _).kept u1 id
 have hB_y1 : Blk w1 (w.heap.size + 1) #[.int .u64 r, .int .u64 b, .int .u64 b] 89 := (Blk.new2 _ _ _ _).kept u1 id
 have hU1 : Upd Nowhere w w1 := (((Upd.refl _ _).alloc _).alloc _).trans u1 (fun _ _ h => h)
 obtain ⟨c_x0, c_x1, c_x2, z_x0, z_x1, z_x2⟩ := cells3 (hB_x1)
 obtain ⟨c_y0, c_y1, c_y2, z_y0, z_y1, z_y2⟩ := cells3 (hB_y1)
 have l_x1 := hB_x1.lt
 have l_y1 := hB_y1.lt
 go_wp2_with fail
 exact bodyPost_ret (v := .tuple #[.agg #[.int .u64 r, .int .u64 b, .int .u64 b], .int .i64 0]) (by simp [results, Tryz.results25, go_sem, c_x0, c_x1, c_x2]) rfl ⟨rfl, by repeat (first | exact hU1 | refine Upd.setNew ?_ (by first | exact Nat.le_refl _ | exact Nat.le_succ _ | (simp; done) | omega) _ | refine Upd.drewN ?_ _ | refine Upd.alloc ?_ _)⟩
end Go.Proofs.YtpgpjjkeginbbaaGreatDoor.Bucket

