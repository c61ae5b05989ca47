/- math/bits: Len64, LeadingZeros64. -/
import Derived.Test.YtjbaibnmbeabnaaGreatDoorBits
import Derived.Lib.Tables
import Derived.Lib.BitFns
namespace Go.Proofs.YtjbaibnmbeabnaaGreatDoor.Bits
open Go.RowKit Go.Proofs
theorem get_len (i : Int) (h0 : 0 ≤ i) (h1 : i ≤ 255) {h : i.toNat < Lib.len8tab.size} : (((Lib.len8tab[i.toNat]'h).toNat : Nat) : Int) = (Lib.bitLen i.toNat : Nat) := by
  have e := Lib.len8_of i h0 h1
  rw [← e]
  simp only [Lib.len8, ByteArray.getElem?_lt' _ _ h, Option.getD_some]
theorem le_len (n : Nat) (h : n ≤ 255) : Lib.bitLen n ≤ 8 := Lib.bitLen_le8 ⟨n, by omega⟩
theorem wrap_len (k : Int) (K L : Nat) (hkK : k = K) (hk : K ≤ 64) (hL : L ≤ 8) : wrap64 (k + wrap64 (L : Int)) = ((K + L : Nat) : Int) := by
  subst hkK
  have e1 : wrap64 (L : Int) = L := IntWalk.wrap64_in _ ⟨by omega, by omega⟩
  rw [e1, IntWalk.wrap64_in _ ⟨by omega, by omega⟩]
  omega
theorem wrap_len0 (L : Nat) (hL : L ≤ 8) : wrap64 (wrap64 (L : Int)) = (L : Int) := by
  have e1 : wrap64 (L : Int) = L := IntWalk.wrap64_in _ ⟨by omega, by omega⟩
  rw [e1, IntWalk.wrap64_in _ ⟨by omega, by omega⟩]
set_option maxHeartbeats 4000000
set_option maxRecDepth 100000
theorem len64 (x : Int) (w : World) (h0 : 0 ≤ x) (h1 : x ≤ 18446744073709551615) :
    Calls Tryz.prog 97 #[.int .u64 x] w fun e w' => e = .returned (.int .i64 (Lib.bitLen x.toNat)) ∧ w = w' := by
  go_enter Tryz.func97, Tryz.ntmps97
  go_wp2
  all_goals first
    | (go_ret; refine ⟨congrArg Ending.returned (congrArg (Value.int IntKind.i64) ?_), rfl⟩)
    | (exfalso
       have hs := Lib.len8tab_size
       omega)
  all_goals first
    | (rw [get_len (x / 4294967296 / 65536 / 256) (by omega) (by omega)]
       have e : (x / 4294967296 / 65536 / 256).toNat = x.toNat / 72057594037927936 := by omega
       have s := Lib.bitLen_shift56 x.toNat (by omega) (by omega)
       have l := le_len (x.toNat / 72057594037927936) (by omega)
       rw [e, s]
       exact wrap_len _ _ _ rfl (by omega) (by omega))
    | (rw [get_len (x / 4294967296 / 65536) (by omega) (by omega)]
       have e : (x / 4294967296 / 65536).toNat = x.toNat / 281474976710656 := by omega
       have s := Lib.bitLen_shift48 x.toNat (by omega) (by omega)
       have l := le_len (x.toNat / 281474976710656) (by omega)
       rw [e, s]
       exact wrap_len _ _ _ rfl (by omega) (by omega))
    | (rw [get_len (x / 4294967296 / 256) (by omega) (by omega)]
       have e : (x / 4294967296 / 256).toNat = x.toNat / 1099511627776 := by omega
       have s := Lib.bitLen_shift40 x.toNat (by omega) (by omega)
       have l := le_len (x.toNat / 1099511627776) (by omega)
       rw [e, s]
       exact wrap_len _ _ _ rfl (by omega) (by omega))
    | (rw [get_len (x / 4294967296) (by omega) (by omega)]
       have e : (x / 4294967296).toNat = x.toNat / 4294967296 := by omega
       have s := Lib.bitLen_shift32 x.toNat (by omega) (by omega)
       have l := le_len (x.toNat / 4294967296) (by omega)
       rw [e, s]
       exact wrap_len _ _ _ rfl (by omega) (by omega))
    | (rw [get_len (x / 65536 / 256) (by omega) (by omega)]
       have e : (x / 65536 / 256).toNat = x.toNat / 16777216 := by omega
       have s := Lib.bitLen_shift24 x.toNat (by omega) (by omega)
       have l := le_len (x.toNat / 16777216) (by omega)
       rw [e, s]
       exact wrap_len _ _ _ rfl (by omega) (by omega))
    | (rw [get_len (x / 65536) (by omega) (by omega)]
       have e : (x / 65536).toNat = x.toNat / 65536 := by omega
       have s := Lib.bitLen_shift16 x.toNat (by omega) (by omega)
       have l := le_len (x.toNat / 65536) (by omega)
       rw [e, s]
       exact wrap_len _ _ _ rfl (by omega) (by omega))
    | (rw [get_len (x / 256) (by omega) (by omega)]
       have e : (x / 256).toNat = x.toNat / 256 := by omega
       have s := Lib.bitLen_shift8 x.toNat (by omega) (by omega)
       have l := le_len (x.toNat / 256) (by omega)
       rw [e, s]
       exact wrap_len _ _ _ rfl (by omega) (by omega))
    | (rw [get_len x (by omega) (by omega)]
       have l := le_len x.toNat (by omega)
       exact wrap_len0 _ (by omega))

/-- How many bits: between which powers of 2 a number lies. -/
theorem bitLen_spec : ∀ (n x : Nat), x ≤ n → x < 18446744073709551616 → x < 2 ^ Lib.bitLen x ∧ (x ≠ 0 → 1 ≤ Lib.bitLen x ∧ 2 ^ (Lib.bitLen x - 1) ≤ x) := by
  intro n
  induction n with
  | zero => intro x hx _; obtain rfl : x = 0 := by omega
            exact ⟨by decide, fun h => absurd rfl h⟩
  | succ n ih =>
    intro x hx hlt
    by_cases h0 : x = 0
    · subst h0; exact ⟨by decide, fun h => absurd rfl h⟩
    · have hh := Lib.bitLen_half x h0 (by simpa using hlt)
      obtain ⟨i1, i2⟩ := ih (x / 2) (by omega) (by omega)
      rw [hh]
      have e : 2 ^ (1 + Lib.bitLen (x / 2)) = 2 * 2 ^ Lib.bitLen (x / 2) := by rw [Nat.pow_add]
      refine ⟨by rw [e]; omega, fun _ => ⟨by omega, ?_⟩⟩
      rw [show 1 + Lib.bitLen (x / 2) - 1 = Lib.bitLen (x / 2) by omega]
      by_cases h2 : x / 2 = 0
      · rw [h2]; have : Lib.bitLen 0 = 0 := by decide
        rw [this]; simp; omega
      · obtain ⟨j1, j2⟩ := i2 h2
        have e2 : 2 ^ Lib.bitLen (x / 2) = 2 * 2 ^ (Lib.bitLen (x / 2) - 1) := by
          obtain ⟨m, hm⟩ : ∃ m, Lib.bitLen (x / 2) = m + 1 := ⟨Lib.bitLen (x / 2) - 1, by omega⟩
          rw [hm, Nat.add_sub_cancel, Nat.pow_succ, Nat.mul_comm]
        omega
theorem bitLen_le (x : Nat) (h : x < 18446744073709551616) : Lib.bitLen x ≤ 64 := by
  obtain ⟨_, h2⟩ := bitLen_spec x x (Nat.le_refl _) h
  by_cases h0 : x = 0
  · subst h0; decide
  · obtain ⟨h3, h4⟩ := h2 h0
    rcases Nat.lt_or_ge 64 (Lib.bitLen x) with hlt | hge
    · exfalso
      have h5 : 2 ^ 64 ≤ 2 ^ (Lib.bitLen x - 1) := Nat.pow_le_pow_right (by omega) (by omega)
      have h6 : (2 : Nat) ^ 64 = 18446744073709551616 := by decide
      omega
    · exact hge

end Go.Proofs.YtjbaibnmbeabnaaGreatDoor.Bits
