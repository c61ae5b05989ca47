/- sat: Sub, Mul, MulAdd, MulDiv, DivUp. -/
import Derived.Test.YtgmiggnlhcldlaaSat
import Derived.Test.YtgmiggnlhcldlaaDiv2
namespace Go.Proofs.Ytgmiggnlhcldlaa.Sat
open Go.RowKit Go.Proofs BigFrame
open Bits (mul64 sat_add div64 mulN addN wrapN wrapM)

theorem sat_sub (a b : Nat) (ha : a ≤ 18446744073709551615) (hb : b ≤ 18446744073709551615) (w : World) :
    Calls Try.prog 42 #[.int .u64 a, .int .u64 b] w fun e w' => e = .returned (.int .u64 (a - b : Nat)) ∧ w = w' := by
  rcases Nat.lt_or_ge a b with hlt | hge
  · have e1 : a - b = 0 := by omega
    rw [e1]
    go_enter Try.func42, Try.ntmps42
    go_wp2
    go_ret
    exact ⟨rfl, rfl⟩
  · have e1 : IntKind.u64.wrap ((a : Int) - (b : Int)) = ((a - b : Nat) : Int) := by rw [IntKind.wrap_u64]; omega
    have e2 : ((a - b : Nat) : Int) = (a : Int) - (b : Int) := by omega
    go_enter Try.func42, Try.ntmps42
    go_wp2
    go_ret
    exact ⟨by simp [e2], rfl⟩

theorem sat_mul (a b : Nat) (ha : a ≤ 18446744073709551615) (hb : b ≤ 18446744073709551615) (w : World) :
    Calls Try.prog 55 #[.int .u64 a, .int .u64 b] w fun e w' => e = .returned (.int .u64 (min (a * b) 18446744073709551615 : Nat)) ∧ w = w' := by
  have h1 := fun u => Lib.hid (mul64 a b (by omega) (by omega) u)
  generalize a * b = m at *
  rcases Nat.eq_zero_or_pos (m / 18446744073709551616) with h0 | hp
  · have e1 : m % 18446744073709551616 = m := by omega
    have e2 : min m 18446744073709551615 = m := by omega
    rw [h0, e1] at h1
    rw [e2]
    clear h0 e1 e2 ha hb
    go_enter Try.func55, Try.ntmps55
    go_wp2_with fail
    refine (h1 _).out.mono ?_
    rintro e w' ⟨rfl, rfl⟩
    go_wp2_with fail
    go_ret
    exact ⟨rfl, rfl⟩
  · have e2 : min m 18446744073709551615 = 18446744073709551615 := by omega
    rw [e2]
    generalize m / 18446744073709551616 = q at *
    generalize m % 18446744073709551616 = r at *
    clear e2 ha hb
    go_enter Try.func55, Try.ntmps55
    go_wp2_with fail
    refine (h1 _).out.mono ?_
    rintro e w' ⟨rfl, rfl⟩
    go_wp2_with fail
    go_ret
    exact ⟨rfl, rfl⟩

theorem cap_add (a m : Nat) : min (a + min m 18446744073709551615) 18446744073709551615 = min (a + m) 18446744073709551615 := by omega

theorem sat_muladd (a b c : Nat) (ha : a ≤ 18446744073709551615) (hb : b ≤ 18446744073709551615) (hc : c ≤ 18446744073709551615) (w : World) :
    Calls Try.prog 43 #[.int .u64 a, .int .u64 b, .int .u64 c] w fun e w' => e = .returned (.int .u64 (min (a + b * c) 18446744073709551615 : Nat)) ∧ w = w' := by
  have h1 := fun u => Lib.hid (sat_mul b c hb hc u)
  have h2 := fun u => Lib.hid (sat_add a (min (b * c) 18446744073709551615) u ha (Nat.min_le_right _ _))
  rw [cap_add] at h2
  generalize min (b * c) 18446744073709551615 = m at *
  generalize min (a + b * c) 18446744073709551615 = n at *
  clear ha hb hc
  go_enter Try.func43, Try.ntmps43
  go_wp2_with fail
  refine (h1 _).out.mono ?_
  rintro e w' ⟨rfl, rfl⟩
  go_wp2_with fail
  refine (h2 _).out.mono ?_
  rintro e w' ⟨rfl, rfl⟩
  go_wp2_with fail
  go_ret
  exact ⟨rfl, rfl⟩

/-- A product through a third. -/
def through (a b c : Nat) : Nat := if c = 0 then 18446744073709551615 else min (a * b / c) 18446744073709551615

theorem sat_muldiv (a b c : Nat) (ha : a ≤ 18446744073709551615) (hb : b ≤ 18446744073709551615) (hc : c ≤ 18446744073709551615) (w : World) :
    Calls Try.prog 54 #[.int .u64 a, .int .u64 b, .int .u64 c] w fun e w' => e = .returned (.int .u64 (through a b c : Nat)) ∧ ∃ k, w' = w.drewN k := by
  have h1 := fun u => Lib.hid (mul64 a b (by omega) (by omega) u)
  simp only [through]
  generalize a * b = m at *
  rcases Nat.lt_or_ge (m / 18446744073709551616) c with hlt | hge
  · have h2 := fun u => Lib.hid (div64 (m / 18446744073709551616) (m % 18446744073709551616) c hlt (by omega) hc u)
    have e1 : m / 18446744073709551616 * 18446744073709551616 + m % 18446744073709551616 = m := by omega
    have e3 : m / c ≤ 18446744073709551615 := by
      have : m / c < 18446744073709551616 := by
        rw [Nat.div_lt_iff_lt_mul (by omega)]
        have h4 : (m / 18446744073709551616 + 1) * 18446744073709551616 ≤ c * 18446744073709551616 := Nat.mul_le_mul_right _ hlt
        rw [Nat.mul_comm 18446744073709551616 c]
        omega
      omega
    have e2 : (if c = 0 then 18446744073709551615 else min (m / c) 18446744073709551615) = m / c := by
      rw [if_neg (by omega)]; omega
    rw [e1] at h2
    rw [e2]
    generalize m / 18446744073709551616 = q at *
    generalize m % 18446744073709551616 = r at *
    generalize m / c = x at *
    generalize m % c = y at *
    clear e1 e2 e3 ha hb
    go_enter Try.func54, Try.ntmps54
    go_wp2_with fail
    refine (h1 _).out.mono ?_
    rintro e w' ⟨rfl, rfl⟩
    go_wp2_with fail
    refine (h2 _).out.mono ?_
    rintro e w' ⟨rfl, k, rfl⟩
    go_wp2_with fail
    go_ret
    exact ⟨rfl, k, rfl⟩
  · have e2 : (if c = 0 then 18446744073709551615 else min (m / c) 18446744073709551615) = 18446744073709551615 := by
      split
      · rfl
      · have : 18446744073709551615 ≤ m / c := by
          rw [Nat.le_div_iff_mul_le (by omega)]
          have h4 : c * 18446744073709551616 ≤ m / 18446744073709551616 * 18446744073709551616 := Nat.mul_le_mul_right _ hge
          omega
        omega
    rw [e2]
    generalize m / 18446744073709551616 = q at *
    generalize m % 18446744073709551616 = r at *
    clear e2 ha hb
    go_enter Try.func54, Try.ntmps54
    go_wp2_with fail
    refine (h1 _).out.mono ?_
    rintro e w' ⟨rfl, rfl⟩
    go_wp2_with fail
    go_ret
    exact ⟨rfl, 0, rfl⟩

/-- A quotient rounded up. -/
def ups (a b : Nat) : Nat := if a = 0 then 0 else if b = 0 then 18446744073709551615 else (a - 1) / b + 1

theorem sat_divup (a b : Nat) (ha : a ≤ 18446744073709551615) (hb : b ≤ 18446744073709551615) (w : World) :
    Calls Try.prog 41 #[.int .u64 a, .int .u64 b] w fun e w' => e = .returned (.int .u64 (ups a b : Nat)) ∧ w = w' := by
  simp only [ups]
  rcases Nat.eq_zero_or_pos a with rfl | hap
  · rw [if_pos rfl]
    go_enter Try.func41, Try.ntmps41
    go_wp2
    go_ret
    exact ⟨rfl, rfl⟩
  rw [if_neg (by omega)]
  rcases Nat.eq_zero_or_pos b with rfl | hbp
  · rw [if_pos rfl]
    go_enter Try.func41, Try.ntmps41
    go_wp2
    go_ret
    exact ⟨rfl, rfl⟩
  rw [if_neg (by omega)]
  obtain ⟨n, rfl⟩ : ∃ n, a = n + 1 := ⟨a - 1, by omega⟩
  have e1 : IntKind.u64.wrap (((n + 1 : Nat) : Int) - 1) = (n : Int) := by rw [IntKind.wrap_u64]; omega
  have e2 : n + 1 - 1 = n := by omega
  have e4 : n / b ≤ n := Nat.div_le_self _ _
  have e3 : IntKind.u64.wrap (IntKind.u64.wrap ((n : Int) / (b : Int)) + 1) = ((n / b + 1 : Nat) : Int) := by
    have e5 : (n : Int) / (b : Int) = ((n / b : Nat) : Int) := by push_cast; rfl
    have e6 : ((n / b : Nat) : Int) + 1 = ((n / b + 1 : Nat) : Int) := by push_cast; rfl
    rw [e5, wrapN _ (by omega), e6]; exact wrapN _ (by omega)
  rw [e2]
  go_enter Try.func41, Try.ntmps41
  go_wp2
  go_ret
  exact ⟨congrArg Ending.returned (congrArg (Value.int IntKind.u64) (by push_cast; rfl)), rfl⟩
end Go.Proofs.Ytgmiggnlhcldlaa.Sat
