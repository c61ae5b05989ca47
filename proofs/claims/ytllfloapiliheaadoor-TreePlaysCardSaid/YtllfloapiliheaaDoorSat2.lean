/- sat: Sub, Mul, MulAdd, MulDiv, DivUp. -/
import Derived.Test.YtllfloapiliheaaDoorSat
import Derived.Test.YtllfloapiliheaaDoorDiv2
namespace Go.Proofs.YtllfloapiliheaaDoor.Sat
open Go.RowKit Go.Proofs BigFrame
open Bits (mul64 sat_add mulN addN wrapN wrapM)

theorem sat_mul (a b : Nat) (ha : a ≤ 18446744073709551615) (hb : b ≤ 18446744073709551615) (w : World) :
    Calls Tryd.prog 62 #[.int .u64 a, .int .u64 b] w fun e w' => e = .returned (.int .u64 (min (a * b) 18446744073709551615 : Nat)) ∧ w = w' := by
  have h1 := fun u => Lib.hid (mul64 a b (by omega) (by omega) u)
  generalize a * b = m at *
  rcases Nat.eq_zero_or_pos (m / 18446744073709551616) with h0 | hp
  · have e1 : m % 18446744073709551616 = m := by omega
    have e2 : min m 18446744073709551615 = m := by omega
    rw [h0, e1] at h1
    rw [e2]
    clear h0 e1 e2 ha hb
    go_enter Tryd.func62, Tryd.ntmps62
    go_wp2_with fail
    refine (h1 _).out.mono ?_
    rintro e w' ⟨rfl, rfl⟩
    go_wp2_with fail
    go_ret
    exact ⟨rfl, rfl⟩
  · have e2 : min m 18446744073709551615 = 18446744073709551615 := by omega
    rw [e2]
    generalize m / 18446744073709551616 = q at *
    generalize m % 18446744073709551616 = r at *
    clear e2 ha hb
    go_enter Tryd.func62, Tryd.ntmps62
    go_wp2_with fail
    refine (h1 _).out.mono ?_
    rintro e w' ⟨rfl, rfl⟩
    go_wp2_with fail
    go_ret
    exact ⟨rfl, rfl⟩

theorem cap_add (a m : Nat) : min (a + min m 18446744073709551615) 18446744073709551615 = min (a + m) 18446744073709551615 := by omega

theorem sat_muladd (a b c : Nat) (ha : a ≤ 18446744073709551615) (hb : b ≤ 18446744073709551615) (hc : c ≤ 18446744073709551615) (w : World) :
    Calls Tryd.prog 49 #[.int .u64 a, .int .u64 b, .int .u64 c] w fun e w' => e = .returned (.int .u64 (min (a + b * c) 18446744073709551615 : Nat)) ∧ w = w' := by
  have h1 := fun u => Lib.hid (sat_mul b c hb hc u)
  have h2 := fun u => Lib.hid (sat_add a (min (b * c) 18446744073709551615) u ha (Nat.min_le_right _ _))
  rw [cap_add] at h2
  generalize min (b * c) 18446744073709551615 = m at *
  generalize min (a + b * c) 18446744073709551615 = n at *
  clear ha hb hc
  go_enter Tryd.func49, Tryd.ntmps49
  go_wp2_with fail
  refine (h1 _).out.mono ?_
  rintro e w' ⟨rfl, rfl⟩
  go_wp2_with fail
  refine (h2 _).out.mono ?_
  rintro e w' ⟨rfl, rfl⟩
  go_wp2_with fail
  go_ret
  exact ⟨rfl, rfl⟩

/-- A product through a third. -/
def through (a b c : Nat) : Nat := if c = 0 then 18446744073709551615 else min (a * b / c) 18446744073709551615

/-- A quotient rounded up. -/
def ups (a b : Nat) : Nat := if a = 0 then 0 else if b = 0 then 18446744073709551615 else (a - 1) / b + 1

end Go.Proofs.YtllfloapiliheaaDoor.Sat
