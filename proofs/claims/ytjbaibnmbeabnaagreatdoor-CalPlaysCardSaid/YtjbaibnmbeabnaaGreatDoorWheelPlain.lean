/- A wheel's spots, and what time does to them; bits of a word. No program in sight. -/
import Derived.Test.YtjbaibnmbeabnaaGreatDoorBase
import Derived.Test.YtjbaibnmbeabnaaGreatDoorHeapMatch
import Derived.Lib.TrailingZeros
import Derived.Lib.BitFns
import Derived.Lib.ItoaNum
namespace Go.Proofs.YtjbaibnmbeabnaaGreatDoor.Wheel
open Heap
abbrev En := Ent Int
/-- The first digit in which a later time differs is this one. -/
def Where (now at' l : Nat) : Prop := now / 64 ^ (l + 1) = at' / 64 ^ (l + 1) ∧ now / 64 ^ l < at' / 64 ^ l
theorem pow6 (l : Nat) : 2 ^ (6 * l) = 64 ^ l := by rw [Nat.pow_mul]
theorem where_lt {now at' l : Nat} (h : Where now at' l) : now < at' := by
  rcases Nat.lt_or_ge now at' with h1 | h1
  · exact h1
  · have := Nat.div_le_div_right (c := 64 ^ l) h1; have := h.2; omega
theorem div_up {x y l m : Nat} (h : x / 64 ^ l = y / 64 ^ l) (hm : l ≤ m) : x / 64 ^ m = y / 64 ^ m := by
  obtain ⟨d, rfl⟩ := Nat.exists_eq_add_of_le hm
  rw [Nat.pow_add, ← Nat.div_div_eq_div_mul, ← Nat.div_div_eq_div_mul, h]
theorem where_one {now at' l m : Nat} (h : Where now at' l) (h' : Where now at' m) : l = m := by
  rcases Nat.lt_trichotomy l m with hl | hl | hl
  · have := div_up h.1 hl; have := h'.2; omega
  · exact hl
  · have := div_up h'.1 hl; have := h.2; omega
/-- Where the code looks for it. -/
def lvl (now at' : Nat) : Nat := (Go.Lib.bitLen (now ^^^ at') - 1) / 6
theorem xor_zero' {a b : Nat} (h : a ^^^ b = 0) : a = b := by
  have h1 : (a ^^^ b) ^^^ b = a := by rw [Nat.xor_assoc, Nat.xor_self, Nat.xor_zero]
  rw [← h1, h, Nat.zero_xor]
theorem len_bounds {now at' : Nat} (h : now < at') (hb : at' ≤ 18446744073709551615) : 1 ≤ Go.Lib.bitLen (now ^^^ at') ∧ 2 ^ (Go.Lib.bitLen (now ^^^ at') - 1) ≤ now ^^^ at' ∧ now ^^^ at' < 2 ^ Go.Lib.bitLen (now ^^^ at') :=
  Go.Lib.bitLenAux_bounds 64 (now ^^^ at') (Nat.xor_lt_two_pow (by omega) (by omega)) (fun e => by have := xor_zero' e; omega)
theorem where_lvl {now at' : Nat} (h : now < at') (hb : at' ≤ 18446744073709551615) : Where now at' (lvl now at') := by
  obtain ⟨h0, h2, h1⟩ := len_bounds h hb
  obtain ⟨L, hL⟩ : ∃ L, Go.Lib.bitLen (now ^^^ at') = L := ⟨_, rfl⟩
  rw [hL] at h0 h1 h2
  unfold lvl
  rw [hL]
  have e1 : now / 64 ^ ((L - 1) / 6 + 1) = at' / 64 ^ ((L - 1) / 6 + 1) := by
    rw [← pow6, ← Nat.shiftRight_eq_div_pow, ← Nat.shiftRight_eq_div_pow]
    have h3 : (now ^^^ at') >>> (6 * ((L - 1) / 6 + 1)) = 0 := by
      rw [Nat.shiftRight_eq_div_pow]
      exact Nat.div_eq_of_lt (Nat.lt_of_lt_of_le h1 (Nat.pow_le_pow_right (by omega) (by omega)))
    rw [Nat.shiftRight_xor_distrib] at h3
    exact xor_zero' h3
  have e2 : now / 64 ^ ((L - 1) / 6) ≠ at' / 64 ^ ((L - 1) / 6) := by
    rw [← pow6, ← Nat.shiftRight_eq_div_pow, ← Nat.shiftRight_eq_div_pow]
    intro e
    have h3 : (now ^^^ at') >>> (6 * ((L - 1) / 6)) = 0 := by rw [Nat.shiftRight_xor_distrib, e, Nat.xor_self]
    rw [Nat.shiftRight_eq_div_pow] at h3
    have h4 : 2 ^ (6 * ((L - 1) / 6)) ≤ now ^^^ at' := Nat.le_trans (Nat.pow_le_pow_right (by omega) (by omega)) h2
    have := Nat.div_pos h4 (Nat.pow_pos (by omega))
    omega
  refine ⟨e1, ?_⟩
  have := Nat.div_le_div_right (c := 64 ^ ((L - 1) / 6)) (Nat.le_of_lt h)
  omega
theorem lvl_lt {now at' : Nat} (h1 : now ≤ 18446744073709551615) (h2 : at' ≤ 18446744073709551615) : lvl now at' ≤ 10 := by
  unfold lvl
  have h3 : now ^^^ at' < 2 ^ 64 := Nat.xor_lt_two_pow (by omega) (by omega)
  have := Go.Lib.bitLen_le _ 64 (by omega) h3
  omega
/-- The place in a level. -/
def plc (l at' : Nat) : Nat := at' / 64 ^ l % 64
theorem plc_lt (l at' : Nat) : plc l at' < 64 := Nat.mod_lt _ (by omega)
theorem div_split (x l : Nat) : x / 64 ^ l = 64 * (x / 64 ^ (l + 1)) + x / 64 ^ l % 64 := by
  rw [Nat.pow_succ, ← Nat.div_div_eq_div_mul]; omega
/-- What lies in a higher level, or behind the new time's place, stays as it lies. -/
theorem where_stays {now now' at' l : Nat} (h : Where now at' l) (hn : now < now') (hb : now' ≤ 18446744073709551615) (ht : lvl now now' < l ∨ (lvl now now' = l ∧ plc l now' < plc l at')) : Where now' at' l := by
  have hw := where_lvl hn hb
  rcases ht with ht | ⟨rfl, ht⟩
  · have e := div_up hw.1 (Nat.succ_le_of_lt ht)
    exact ⟨by rw [← h.1]; exact (div_up hw.1 (by omega)).symm, by rw [← e]; exact h.2⟩
  · refine ⟨by rw [← h.1]; exact hw.1.symm, ?_⟩
    have e1 := div_split now' (lvl now now')
    have e2 := div_split at' (lvl now now')
    have e3 : now' / 64 ^ (lvl now now' + 1) = at' / 64 ^ (lvl now now' + 1) := by rw [← h.1]; exact hw.1.symm
    unfold plc at ht
    omega
/-- Who lies in a lower level is due ahead. -/
theorem where_ahead {now x y l m : Nat} (hx : Where now x l) (hy : Where now y m) (h : l < m ∨ (l = m ∧ plc l x < plc l y)) : x < y := by
  rcases h with h | ⟨rfl, h⟩
  · have e : now / 64 ^ m = x / 64 ^ m := div_up hx.1 h
    have := hy.2
    rw [e] at this
    rcases Nat.lt_or_ge x y with h1 | h1
    · exact h1
    · have := Nat.div_le_div_right (c := 64 ^ m) h1; omega
  · have e1 := div_split x l
    have e2 := div_split y l
    have e3 : x / 64 ^ (l + 1) = y / 64 ^ (l + 1) := by rw [← hx.1, hy.1]
    unfold plc at h
    rcases Nat.lt_or_ge x y with h1 | h1
    · exact h1
    · have := Nat.div_le_div_right (c := 64 ^ l) h1; omega
/-- The lowest bit of a word. -/
theorem ctz_bits {u : Nat} (h0 : u ≠ 0) (h : u < 2 ^ 64) : u.testBit (Go.Lib.ctz 64 u) = true ∧ (∀ j, j < Go.Lib.ctz 64 u → u.testBit j = false) ∧ Go.Lib.ctz 64 u < 64 ∧ u &&& (u - 1) = u - 2 ^ Go.Lib.ctz 64 u ∧ 2 ^ Go.Lib.ctz 64 u ≤ u := by
  obtain ⟨m, hm, hlt⟩ := Go.Lib.ctzFrom_spec 64 u (Nat.pos_of_ne_zero h0) h
  have e : Go.Lib.ctz 64 u = Go.Lib.ctzFrom 64 u := by unfold Go.Lib.ctz; rw [if_neg h0]
  rw [e]
  generalize Go.Lib.ctzFrom 64 u = k at *
  have hk := Nat.pow_pos (n := k) (show 0 < 2 by omega)
  have hle : 2 ^ k ≤ u := by rw [hm]; exact Nat.le_mul_of_pos_right _ (by omega)
  have tb : ∀ j, u.testBit j = (decide (k ≤ j) && (2 * m + 1).testBit (j - k)) := fun j => by
    rw [hm, Nat.testBit_two_pow_mul]
  have e2 : u - 2 ^ k = 2 ^ k * (2 * m) := by rw [hm, Nat.mul_add, Nat.mul_one]; omega
  refine ⟨by rw [tb]; simp, fun j hj => by rw [tb]; simp; omega, hlt, ?_, hle⟩
  apply Nat.eq_of_testBit_eq
  intro j
  rw [Nat.testBit_and, tb j, e2, Nat.testBit_two_pow_mul]
  have e3 : u - 1 = 2 ^ k * (2 * m) + (2 ^ k - 1) := by rw [← e2]; omega
  rw [e3, Nat.testBit_two_pow_mul_add _ (by omega)]
  by_cases hj : j < k
  · rw [if_pos hj]
    have : ¬ k ≤ j := by omega
    simp [this]
  · rw [if_neg hj]
    have hkj : k ≤ j := by omega
    obtain ⟨d, rfl⟩ := Nat.exists_eq_add_of_le hkj
    simp only [Nat.add_sub_cancel_left, hkj, decide_true, Bool.true_and]
    cases d with
    | zero => simp
    | succ d =>
      rw [Nat.testBit_succ, Nat.testBit_succ]
      have e4 : (2 * m + 1) / 2 = m := by omega
      have e5 : 2 * m / 2 = m := by omega
      rw [e4, e5, Bool.and_self]
/-- A word without a bit that it has. -/
theorem drop_bit {u k : Nat} (h : u.testBit k = true) (j : Nat) : (u - 2 ^ k).testBit j = (u.testBit j && decide (j ≠ k)) := by
  rw [Nat.testBit_eq_decide_div_mod_eq, decide_eq_true_eq] at h
  obtain ⟨q, hq⟩ : ∃ q, u / 2 ^ k = 2 * q + 1 := ⟨u / 2 ^ k / 2, by omega⟩
  obtain ⟨r, hr⟩ : ∃ r, u % 2 ^ k = r := ⟨_, rfl⟩
  have hk := Nat.pow_pos (n := k) (show 0 < 2 by omega)
  have hrl : r < 2 ^ k := by rw [← hr]; exact Nat.mod_lt _ hk
  have e : u = 2 ^ k * (2 * q + 1) + r := by rw [← hq, ← hr]; exact (Nat.div_add_mod _ _).symm
  have e2 : u - 2 ^ k = 2 ^ k * (2 * q) + r := by rw [e, Nat.mul_add, Nat.mul_one]; omega
  rw [e2, e, Nat.testBit_two_pow_mul_add _ hrl, Nat.testBit_two_pow_mul_add _ hrl]
  by_cases hj : j < k
  · rw [if_pos hj, if_pos hj]
    have : j ≠ k := by omega
    simp [this]
  · rw [if_neg hj, if_neg hj]
    obtain ⟨d, rfl⟩ := Nat.exists_eq_add_of_le (Nat.le_of_not_lt hj)
    simp only [Nat.add_sub_cancel_left]
    cases d with
    | zero => simp
    | succ d =>
      rw [Nat.testBit_succ, Nat.testBit_succ, show 2 * q / 2 = q by omega, show (2 * q + 1) / 2 = q by omega]
      simp
/-- A word with one bit more. -/
theorem set_bit (u k j : Nat) : (u ||| 2 ^ k).testBit j = (u.testBit j || decide (j = k)) := by
  rw [Nat.testBit_or, Nat.testBit_two_pow]
  by_cases hjk : k = j
  · subst hjk; simp
  · have : j ≠ k := fun e => hjk e.symm
    simp [hjk, this]
end Go.Proofs.YtjbaibnmbeabnaaGreatDoor.Wheel
