/- root, and the reference's roots. -/
import Derived.Test.YtgmiggnlhcldlaaSat5
import Derived.Test.YtgmiggnlhcldlaaRootPlain
namespace Go.Proofs.Ytgmiggnlhcldlaa.Root
open Go.RowKit Go.Proofs BigFrame
open Wide (Gives four dg)
open Bits (mul64 sat_add mulN addN wrapN wrapM)
open Sat (shl1)
set_option maxHeartbeats 1000000
set_option maxRecDepth 100000
theorem pow_lt {m : Nat} (h : m < 32) : 2 ^ m ≤ 2147483648 := by
  have : 2 ^ m ≤ 2 ^ 31 := Nat.pow_le_pow_right (by omega) (by omega)
  simpa using this
theorem pow_dbl (m : Nat) : 2 ^ (m + 1) = 2 ^ m + 2 ^ m := by rw [Nat.pow_succ]; omega
theorem mul_lt32 {x : Nat} (h : x < 4294967296) : x * x < 18446744073709551616 := by
  have := Nat.mul_le_mul (show x ≤ 4294967295 by omega) (show x ≤ 4294967295 by omega)
  omega
theorem ret_nat {k : IntKind} {a b : Nat} (h : a = b) : Ending.returned (.int k (a : Int)) = .returned (.int k (b : Int)) := by rw [h]

theorem rsqrt_any (n : Nat) (hn : n ≤ 18446744073709551615) (w : World) :
    Calls Try.prog 62 #[.int .u64 n] w fun e w' => Gives w (.int .u64 (sq n : Nat)) e w' := by
  obtain ⟨S, hS⟩ : ∃ S, sq n = S := ⟨_, rfl⟩
  have HS : Hid (top (fun m => decide (m * m ≤ n)) 32 0 = S) := Lib.hid hS
  rw [hS]
  clear hS
  have h1 := fun u => Lib.hid (Wide.of_any n hn u)
  go_enter Try.func62, Try.ntmps62
  go_wp2_with fail
  go_loopw [3, 4] (fun kv i wr => ∃ r k : Nat, r ≤ 32 ∧ kv = .int .u64 k ∧ (∃ x : Int, i = .int .i64 x ∧ x = (r : Int) - 1) ∧ k + 2 ^ r ≤ 4294967296 ∧ top (fun m => decide (m * m ≤ n)) r k = S ∧ Upd Nowhere w wr) (fun _ i _ => (intOf i + 1).toNat)
  case atStart => exact ⟨32, 0, by omega, rfl, ⟨31, rfl, rfl⟩, by simp, HS.out, Upd.refl _ _⟩
  case round =>
    obtain ⟨r, k, hr, rfl, ⟨x, rfl, hx⟩, hk, ht, hu⟩ := hrel
    have HT := Lib.hid ht
    clear ht
    cases r with
    | zero =>
      obtain rfl : x = -1 := by omega
      have HT2 : Hid (k = S) := HT
      clear hk HT h1 hx
      go_wp2_with fail
      go_ret
      exact ⟨ret_nat HT2.out, hu⟩
    | succ m =>
      obtain rfl : x = (m : Int) := by omega
      have hp := pow_lt (show m < 32 by omega)
      have hp0 := Nat.two_pow_pos m
      rw [pow_dbl] at hk
      have e2 : IntKind.u64.wrap ((k : Int) + ((2 ^ m : Nat) : Int)) = ((k + 2 ^ m : Nat) : Int) := by rw [addN]; exact wrapN _ (by omega)
      have HT2 : Hid (top (fun m => decide (m * m ≤ n)) m (if (k + 2 ^ m) * (k + 2 ^ m) ≤ n then k + 2 ^ m else k) = S) := by
        have h := HT.out
        unfold top at h
        exact Lib.hid (by simpa using h)
      clear HT
      obtain ⟨X, hX⟩ : ∃ X, k + 2 ^ m = X := ⟨_, rfl⟩
      have HK1 : X + 2 ^ m ≤ 4294967296 := by omega
      have HK2 : k + 2 ^ m ≤ 4294967296 := by omega
      have hXM : X ≤ 18446744073709551615 := by have := Nat.two_pow_pos m; omega
      rw [hX] at e2 HT2
      have h2 := fun u => Lib.hid (Wide.times_any X X hXM hXM u)
      have h3 := fun u => Lib.hid (Sat.less_num n (X * X) (by omega) (Nat.lt_of_le_of_lt (Sat.prod_lt hXM hXM) (by omega)) u)
      obtain ⟨M, hM⟩ : ∃ M, 2 ^ m = M := ⟨_, rfl⟩
      rw [hM] at e2 HK1 HK2
      have HM := Lib.hid hM
      have e1 := shl1 m (by omega)
      rw [hM] at e1
      generalize X * X = Y at *
      generalize four (dg n) = A at *
      generalize four (dg Y) = B at *
      clear hX hM hk hp hp0 hXM hx
      rcases Nat.lt_or_ge n Y with hlt | hge
      · have HT3 : Hid (top (fun m => decide (m * m ≤ n)) m k = S) := by
          have h := HT2.out
          rw [if_neg (by omega)] at h
          exact h
        rw [decide_eq_true hlt] at h3
        go_wp2_with fail
        refine ((h1 _).out).mono ?_
        rintro e w1 ⟨rfl, u1⟩
        go_wp2_with fail
        refine ((h2 _).out).mono ?_
        rintro e w2 ⟨rfl, u2⟩
        go_wp2_with fail
        refine ((h3 _).out).mono ?_
        rintro e w3 ⟨rfl, u3⟩
        go_wp2_with fail
        go_roundw
        case rel => exact ⟨m, k, by omega, rfl, ⟨_, rfl, by omega⟩, by rw [HM.out]; exact HK2, HT3.out, ((hu.trans u1 (fun _ _ h => h)).trans u2 (fun _ _ h => h)).trans u3 (fun _ _ h => h)⟩
        case measure => simp [intOf]
      · have HT3 : Hid (top (fun m => decide (m * m ≤ n)) m X = S) := by
          have h := HT2.out
          rw [if_pos hge] at h
          exact h
        rw [decide_eq_false (by omega : ¬ n < Y)] at h3
        go_wp2_with fail
        refine ((h1 _).out).mono ?_
        rintro e w1 ⟨rfl, u1⟩
        go_wp2_with fail
        refine ((h2 _).out).mono ?_
        rintro e w2 ⟨rfl, u2⟩
        go_wp2_with fail
        refine ((h3 _).out).mono ?_
        rintro e w3 ⟨rfl, u3⟩
        go_wp2_with fail
        go_roundw
        case rel => exact ⟨m, X, by omega, rfl, ⟨_, rfl, by omega⟩, by rw [HM.out]; exact HK1, HT3.out, ((hu.trans u1 (fun _ _ h => h)).trans u2 (fun _ _ h => h)).trans u3 (fun _ _ h => h)⟩
        case measure => simp [intOf]
theorem fits_any (k c s : Nat) (hk : k ≤ 2147483648) (hc : c ≤ 18446744073709551615) (hs : s ≤ 18446744073709551615) (w : World) :
    Calls Try.prog 67 #[.int .u64 k, .int .u64 c, .int .u64 s] w fun e w' => e = .returned (.bool (decide (k * k * c ≤ s))) ∧ w = w' := by
  have hkk := mul_lt32 (show k < 4294967296 by omega)
  have e1 : IntKind.u64.wrap ((k : Int) * (k : Int)) = ((k * k : Nat) : Int) := by rw [mulN]; exact wrapN _ hkk
  have h1 := fun u => Lib.hid (mul64 (k * k) c hkk (by omega) u)
  generalize k * k = Q at *
  have hd : decide (Q * c ≤ s) = (decide (Q * c / 18446744073709551616 = 0) && decide (Q * c % 18446744073709551616 ≤ s)) := by
    rw [Bool.eq_iff_iff]; simp only [Bool.and_eq_true, decide_eq_true_eq]; omega
  rw [hd]
  generalize Q * c / 18446744073709551616 = hi at *
  generalize Q * c % 18446744073709551616 = lo at *
  clear hd hkk hk hc hs
  rcases Nat.eq_zero_or_pos hi with rfl | hpos
  · rcases Nat.lt_or_ge s lo with hlt | hge
    · go_enter Try.func67, Try.ntmps67
      go_wp2_with fail
      refine ((h1 _).out).mono ?_
      rintro e w' ⟨rfl, rfl⟩
      go_wp2_with fail
      go_ret
      exact ⟨ret_bool (by simp), rfl⟩
    · go_enter Try.func67, Try.ntmps67
      go_wp2_with fail
      refine ((h1 _).out).mono ?_
      rintro e w' ⟨rfl, rfl⟩
      go_wp2_with fail
      go_ret
      exact ⟨ret_bool (by simp; omega), rfl⟩
  · have e2 : ((hi : Int) == 0) = false := by simp; omega
    have e3 : Hid (decide (hi = 0) = false) := Lib.hid (by simp; omega)
    go_enter Try.func67, Try.ntmps67
    go_wp2_with fail
    refine ((h1 _).out).mono ?_
    rintro e w' ⟨rfl, rfl⟩
    go_wp2_with fail
    go_ret
    exact ⟨ret_bool (by rw [e3.out]; simp), rfl⟩
theorem bound_any (n : Int) (w : World) :
    Calls Try.prog 63 #[.int .i64 n] w fun e w' => e = .returned (.int .i64 (slo n : Nat)) ∧ w = w' := by
  obtain ⟨q, hq⟩ : ∃ q : Nat, (if n < 0 then (0 : Int) else n) = (q : Int) := ⟨(if n < 0 then (0 : Int) else n).toNat, by split <;> omega⟩
  have hs : (if (16 : Int) < (q : Int) then (16 : Int) else (q : Int)) = ((slo n : Nat) : Int) := by
    have h2 : (q : Int) = max n 0 := by rw [← hq]; split <;> omega
    unfold slo; split <;> omega
  generalize slo n = S at *
  go_enter Try.func63, Try.ntmps63
  go_wp2_with fail
  go_ret
  exact ⟨rfl, rfl⟩
end Go.Proofs.Ytgmiggnlhcldlaa.Root
