/- the reference of sat: Add, Sub, Mul, MulAdd, Under. -/
import Derived.Test.YtgmiggnlhcldlaaSat2
namespace Go.Proofs.Ytgmiggnlhcldlaa.Sat
open Go.RowKit Go.Proofs BigFrame
open Wide (four dg Gives of_any times_any)

theorem lt_of_max {a : Nat} (h : a ≤ 18446744073709551615) : a < 340282366920938463463374607431768211456 := by omega

set_option maxHeartbeats 1000000
theorem ref_add (a b : Nat) (ha : a ≤ 18446744073709551615) (hb : b ≤ 18446744073709551615) (w : World) :
    Calls Try.prog 30 #[.int .u64 a, .int .u64 b] w fun e w' => Gives w (.int .u64 (min (a + b) 18446744073709551615 : Nat)) e w' := by
  have h1 := fun u => Lib.hid (of_any a ha u)
  have h2 := fun u => Lib.hid (of_any b hb u)
  have h3 := fun u => Lib.hid (plus_num a b (by omega) u)
  have h4 := fun u => Lib.hid (cap_num (a + b) (by omega) u)
  generalize four (dg a) = v1 at *
  generalize four (dg b) = v2 at *
  generalize four (dg (a + b)) = v3 at *
  generalize min (a + b) 18446744073709551615 = n at *
  clear ha hb
  go_enter Try.func30, Try.ntmps30
  go_wp2_with fail
  refine (h1 _).out.mono ?_
  rintro e w1 ⟨rfl, u1⟩
  go_wp2_with fail
  refine (h2 _).out.mono ?_
  rintro e w2 ⟨rfl, u2⟩
  go_wp2_with fail
  refine (h3 _).out.mono ?_
  rintro e w3 ⟨rfl, u3⟩
  go_wp2_with fail
  refine (h4 _).out.mono ?_
  rintro e w4 ⟨rfl, u4⟩
  go_wp2_with fail
  go_ret
  exact ⟨rfl, ((u1.trans u2 (fun _ _ h => h)).trans u3 (fun _ _ h => h)).trans u4 (fun _ _ h => h)⟩

theorem ref_sub (a b : Nat) (ha : a ≤ 18446744073709551615) (hb : b ≤ 18446744073709551615) (w : World) :
    Calls Try.prog 51 #[.int .u64 a, .int .u64 b] w fun e w' => e = .returned (.int .u64 (a - b : Nat)) ∧ w = w' := by
  rcases Nat.lt_or_ge a b with hlt | hge
  · have e1 : a - b = 0 := by omega
    rw [e1]
    go_enter Try.func51, Try.ntmps51
    go_wp2
    go_ret
    exact ⟨rfl, rfl⟩
  · have e1 : IntKind.u64.wrap ((a : Int) - (b : Int)) = ((a - b : Nat) : Int) := by rw [IntKind.wrap_u64]; omega
    have e2 : ((a - b : Nat) : Int) = (a : Int) - (b : Int) := by omega
    go_enter Try.func51, Try.ntmps51
    go_wp2
    go_ret
    exact ⟨by simp [e2], rfl⟩

theorem ref_mul (a b : Nat) (ha : a ≤ 18446744073709551615) (hb : b ≤ 18446744073709551615) (w : World) :
    Calls Try.prog 58 #[.int .u64 a, .int .u64 b] w fun e w' => Gives w (.int .u64 (min (a * b) 18446744073709551615 : Nat)) e w' := by
  have h1 := fun u => Lib.hid (times_any a b ha hb u)
  have h4 := fun u => Lib.hid (cap_num (a * b) (Nat.lt_of_le_of_lt (prod_lt ha hb) (by omega)) u)
  generalize four (dg (a * b)) = v3 at *
  generalize min (a * b) 18446744073709551615 = n at *
  clear ha hb
  go_enter Try.func58, Try.ntmps58
  go_wp2_with fail
  refine (h1 _).out.mono ?_
  rintro e w1 ⟨rfl, u1⟩
  go_wp2_with fail
  refine (h4 _).out.mono ?_
  rintro e w2 ⟨rfl, u2⟩
  go_wp2_with fail
  go_ret
  exact ⟨rfl, u1.trans u2 (fun _ _ h => h)⟩

theorem ref_muladd (a b c : Nat) (ha : a ≤ 18446744073709551615) (hb : b ≤ 18446744073709551615) (hc : c ≤ 18446744073709551615) (w : World) :
    Calls Try.prog 44 #[.int .u64 a, .int .u64 b, .int .u64 c] w fun e w' => Gives w (.int .u64 (min (a + b * c) 18446744073709551615 : Nat)) e w' := by
  have hp := prod_lt hb hc
  have h1 := fun u => Lib.hid (of_any a ha u)
  have h2 := fun u => Lib.hid (times_any b c hb hc u)
  have h3 := fun u => Lib.hid (plus_num a (b * c) (by omega) u)
  have h4 := fun u => Lib.hid (cap_num (a + b * c) (by omega) u)
  generalize four (dg a) = v1 at *
  generalize four (dg (b * c)) = v2 at *
  generalize four (dg (a + b * c)) = v3 at *
  generalize min (a + b * c) 18446744073709551615 = n at *
  clear ha hb hc hp
  go_enter Try.func44, Try.ntmps44
  go_wp2_with fail
  refine (h1 _).out.mono ?_
  rintro e w1 ⟨rfl, u1⟩
  go_wp2_with fail
  refine (h2 _).out.mono ?_
  rintro e w2 ⟨rfl, u2⟩
  go_wp2_with fail
  refine (h3 _).out.mono ?_
  rintro e w3 ⟨rfl, u3⟩
  go_wp2_with fail
  refine (h4 _).out.mono ?_
  rintro e w4 ⟨rfl, u4⟩
  go_wp2_with fail
  go_ret
  exact ⟨rfl, ((u1.trans u2 (fun _ _ h => h)).trans u3 (fun _ _ h => h)).trans u4 (fun _ _ h => h)⟩

end Go.Proofs.Ytgmiggnlhcldlaa.Sat
