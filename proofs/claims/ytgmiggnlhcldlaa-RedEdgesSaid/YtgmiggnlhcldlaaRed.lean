/- red, and the reference's red: Check, Step. -/
import Derived.Test.YtgmiggnlhcldlaaRoot2
import Derived.Test.YtgmiggnlhcldlaaCells
import Derived.Test.YtgmiggnlhcldlaaKeep
namespace Go.Proofs.Ytgmiggnlhcldlaa.Red
open Go.RowKit Go.Proofs BigFrame
open Wide (Gives)
open Bits (sat_add wrapN mulN)
open Root (slo fol)
set_option maxHeartbeats 2000000
set_option maxRecDepth 100000
/-- Whether a configuration may be. -/
def ok (A B P : Nat) (s : Int) : Prop := A < B ∧ B ≤ 1099511627776 ∧ 1 ≤ P ∧ P ≤ 65536 ∧ 0 ≤ s ∧ s ≤ 16
instance (A B P : Nat) (s : Int) : Decidable (ok A B P s) := by unfold ok; infer_instance
/-- How many parts. -/
def pt (A B P q : Nat) : Nat := P * (q - A) / (B - A)
/-- A step of a mean, and a count; whether a packet is let go. -/
def rs (A B P : Nat) (s : Int) (m c x : Nat) : (Nat × Nat) × Bool :=
  if ok A B P s then
    if fol m x (slo s) / 2 ^ slo s < A then ((fol m x (slo s), 0), false)
    else if B ≤ fol m x (slo s) / 2 ^ slo s then ((fol m x (slo s), 0), true)
    else if min (min (c + 1) 18446744073709551615 * pt A B P (fol m x (slo s) / 2 ^ slo s)) 18446744073709551615 < 65536 then ((fol m x (slo s), min (c + 1) 18446744073709551615), false)
    else ((fol m x (slo s), 0), true)
  else ((m, c), false)
theorem fol_le (m x s : Nat) : fol m x s ≤ 18446744073709551615 := Nat.min_le_right _ _
theorem pt_lt {A B P q : Nat} (hP : P ≤ 65536) (hq : q < B) (hA : A < B) : pt A B P q ≤ 65536 := by
  unfold pt
  have h1 : P * (q - A) ≤ 65536 * (B - A) := Nat.mul_le_mul hP (by omega)
  have h2 : 65536 * (B - A) / (B - A) = 65536 := Nat.mul_div_cancel _ (by omega)
  exact Nat.le_trans (Nat.div_le_div_right h1) (Nat.le_of_eq h2)
theorem pt_through {A B P q : Nat} (hP : P ≤ 65536) (hq : q < B) (hA : A < B) : Sat.through P (q - A) (B - A) = pt A B P q := by
  have h := pt_lt hP hq hA
  unfold Sat.through
  rw [if_neg (by omega)]
  unfold pt at *
  omega
theorem check_ok (A B P : Nat) (s : Int) (h : ok A B P s) (w : World) : Calls Try.prog 35 #[.agg #[.int .u64 A, .int .u64 B, .int .u64 P, .int .i64 s]] w fun e w' => Gives w (.int .i64 0) e w' := by
  obtain ⟨h1, h2, h3, h4, h5, h6⟩ := h
  have t0 : decide (B ≤ A) = false := decide_eq_false (by omega)
  have t1 : decide (A ≥ B) = false := decide_eq_false (by omega)
  have t2 : decide ((B : Int) > 1099511627776) = false := decide_eq_false (by omega)
  have t3 : decide (1099511627776 < (B : Int)) = false := decide_eq_false (by omega)
  have t4 : decide ((P : Int) < 1) = false := decide_eq_false (by omega)
  have t5 : decide ((P : Int) > 65536) = false := decide_eq_false (by omega)
  have t6 : decide (65536 < (P : Int)) = false := decide_eq_false (by omega)
  have t7 : decide (s < 0) = false := decide_eq_false (by omega)
  have t8 : decide (s > 16) = false := decide_eq_false (by omega)
  have t9 : decide (16 < s) = false := decide_eq_false (by omega)
  clear h1 h2 h3 h4 h5 h6
  go_enter Try.func35, Try.ntmps35
  go_wp2_with fail
  go_ret
  exact ⟨rfl, (Upd.refl _ _).alloc _⟩
theorem check_no (A B P : Nat) (s : Int) (h : ¬ok A B P s) (w : World) : Calls Try.prog 35 #[.agg #[.int .u64 A, .int .u64 B, .int .u64 P, .int .i64 s]] w fun e w' => Gives w (.int .i64 6) e w' := by
  unfold ok at h
  by_cases g0 : B ≤ A
  · have t0_0 : decide (B ≤ A) = true := decide_eq_true (by omega)
    have t0_1 : decide (A ≥ B) = true := decide_eq_true (by omega)
    clear h g0
    go_enter Try.func35, Try.ntmps35
    go_wp2_with fail
    go_ret
    exact ⟨rfl, (Upd.refl _ _).alloc _⟩
  have t0_0 : decide (B ≤ A) = false := decide_eq_false (by omega)
  have t0_1 : decide (A ≥ B) = false := decide_eq_false (by omega)
  by_cases g1 : 1099511627776 < B
  · have t1_0 : decide ((B : Int) > 1099511627776) = true := decide_eq_true (by omega)
    have t1_1 : decide (1099511627776 < (B : Int)) = true := decide_eq_true (by omega)
    clear h g0 g1
    go_enter Try.func35, Try.ntmps35
    go_wp2_with fail
    go_ret
    exact ⟨rfl, (Upd.refl _ _).alloc _⟩
  have t1_0 : decide ((B : Int) > 1099511627776) = false := decide_eq_false (by omega)
  have t1_1 : decide (1099511627776 < (B : Int)) = false := decide_eq_false (by omega)
  by_cases g2 : P < 1
  · have t2_0 : decide ((P : Int) < 1) = true := decide_eq_true (by omega)
    clear h g0 g1 g2
    go_enter Try.func35, Try.ntmps35
    go_wp2_with fail
    go_ret
    exact ⟨rfl, (Upd.refl _ _).alloc _⟩
  have t2_0 : decide ((P : Int) < 1) = false := decide_eq_false (by omega)
  by_cases g3 : 65536 < P
  · have t3_0 : decide ((P : Int) > 65536) = true := decide_eq_true (by omega)
    have t3_1 : decide (65536 < (P : Int)) = true := decide_eq_true (by omega)
    clear h g0 g1 g2 g3
    go_enter Try.func35, Try.ntmps35
    go_wp2_with fail
    go_ret
    exact ⟨rfl, (Upd.refl _ _).alloc _⟩
  have t3_0 : decide ((P : Int) > 65536) = false := decide_eq_false (by omega)
  have t3_1 : decide (65536 < (P : Int)) = false := decide_eq_false (by omega)
  by_cases g4 : s < 0
  · have t4_0 : decide (s < 0) = true := decide_eq_true (by omega)
    clear h g0 g1 g2 g3 g4
    go_enter Try.func35, Try.ntmps35
    go_wp2_with fail
    go_ret
    exact ⟨rfl, (Upd.refl _ _).alloc _⟩
  have t4_0 : decide (s < 0) = false := decide_eq_false (by omega)
  have g5 : 16 < s := by omega
  have t5_0 : decide (s > 16) = true := decide_eq_true (by omega)
  have t5_1 : decide (16 < s) = true := decide_eq_true (by omega)
  clear h g0 g1 g2 g3 g4 g5
  go_enter Try.func35, Try.ntmps35
  go_wp2_with fail
  go_ret
  exact ⟨rfl, (Upd.refl _ _).alloc _⟩

theorem may_ok (A B P : Nat) (s : Int) (h : ok A B P s) (w : World) : Calls Try.prog 34 #[.agg #[.int .u64 A, .int .u64 B, .int .u64 P, .int .i64 s]] w fun e w' => Gives w (.bool true) e w' := by
  obtain ⟨h1, h2, h3, h4, h5, h6⟩ := h
  have t0 : decide (A < B) = true := decide_eq_true (by omega)
  have t1 : decide ((B : Int) ≤ 1099511627776) = true := decide_eq_true (by omega)
  have t2 : decide ((P : Int) ≥ 1) = true := decide_eq_true (by omega)
  have t3 : decide (1 ≤ (P : Int)) = true := decide_eq_true (by omega)
  have t4 : decide ((P : Int) ≤ 65536) = true := decide_eq_true (by omega)
  have t5 : decide (s ≥ 0) = true := decide_eq_true (by omega)
  have t6 : decide (0 ≤ s) = true := decide_eq_true (by omega)
  have t7 : decide (s ≤ 16) = true := decide_eq_true (by omega)
  clear h1 h2 h3 h4 h5 h6
  go_enter Try.func34, Try.ntmps34
  go_wp2_with fail
  go_ret
  exact ⟨rfl, (Upd.refl _ _).alloc _⟩
theorem may_no (A B P : Nat) (s : Int) (h : ¬ok A B P s) (w : World) : Calls Try.prog 34 #[.agg #[.int .u64 A, .int .u64 B, .int .u64 P, .int .i64 s]] w fun e w' => Gives w (.bool false) e w' := by
  unfold ok at h
  by_cases g0 : A < B
  case neg =>
    have t0_0 : decide (A < B) = false := decide_eq_false (by omega)
    clear h g0
    go_enter Try.func34, Try.ntmps34
    go_wp2_with fail
    go_ret
    exact ⟨rfl, (Upd.refl _ _).alloc _⟩
  have t0_0 : decide (A < B) = true := decide_eq_true (by omega)
  by_cases g1 : B ≤ 1099511627776
  case neg =>
    have t1_0 : decide ((B : Int) ≤ 1099511627776) = false := decide_eq_false (by omega)
    clear h g0 g1
    go_enter Try.func34, Try.ntmps34
    go_wp2_with fail
    go_ret
    exact ⟨rfl, (Upd.refl _ _).alloc _⟩
  have t1_0 : decide ((B : Int) ≤ 1099511627776) = true := decide_eq_true (by omega)
  by_cases g2 : 1 ≤ P
  case neg =>
    have t2_0 : decide ((P : Int) ≥ 1) = false := decide_eq_false (by omega)
    have t2_1 : decide (1 ≤ (P : Int)) = false := decide_eq_false (by omega)
    clear h g0 g1 g2
    go_enter Try.func34, Try.ntmps34
    go_wp2_with fail
    go_ret
    exact ⟨rfl, (Upd.refl _ _).alloc _⟩
  have t2_0 : decide ((P : Int) ≥ 1) = true := decide_eq_true (by omega)
  have t2_1 : decide (1 ≤ (P : Int)) = true := decide_eq_true (by omega)
  by_cases g3 : P ≤ 65536
  case neg =>
    have t3_0 : decide ((P : Int) ≤ 65536) = false := decide_eq_false (by omega)
    clear h g0 g1 g2 g3
    go_enter Try.func34, Try.ntmps34
    go_wp2_with fail
    go_ret
    exact ⟨rfl, (Upd.refl _ _).alloc _⟩
  have t3_0 : decide ((P : Int) ≤ 65536) = true := decide_eq_true (by omega)
  by_cases g4 : 0 ≤ s
  case neg =>
    have t4_0 : decide (s ≥ 0) = false := decide_eq_false (by omega)
    have t4_1 : decide (0 ≤ s) = false := decide_eq_false (by omega)
    clear h g0 g1 g2 g3 g4
    go_enter Try.func34, Try.ntmps34
    go_wp2_with fail
    go_ret
    exact ⟨rfl, (Upd.refl _ _).alloc _⟩
  have t4_0 : decide (s ≥ 0) = true := decide_eq_true (by omega)
  have t4_1 : decide (0 ≤ s) = true := decide_eq_true (by omega)
  have g5 : ¬s ≤ 16 := by omega
  have t5_0 : decide (s ≤ 16) = false := decide_eq_false (by omega)
  clear h g0 g1 g2 g3 g4 g5
  go_enter Try.func34, Try.ntmps34
  go_wp2_with fail
  go_ret
  exact ⟨rfl, (Upd.refl _ _).alloc _⟩

end Go.Proofs.Ytgmiggnlhcldlaa.Red
