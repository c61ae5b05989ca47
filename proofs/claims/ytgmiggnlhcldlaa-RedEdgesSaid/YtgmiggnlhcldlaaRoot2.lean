/- root: parts, logarithms, means; the reference's. -/
import Derived.Test.YtgmiggnlhcldlaaRoot
namespace Go.Proofs.Ytgmiggnlhcldlaa.Root
open Go.RowKit Go.Proofs BigFrame
open Wide (Gives four dg)
open Bits (mul64 sat_add mulN addN wrapN wrapM len64)
open Sat (shl1)
set_option maxHeartbeats 1000000
set_option maxRecDepth 100000
theorem base_if (n : Nat) : (if (2147483648 : Int) < (n : Int) then (2147483648 : Int) else (n : Int)) = ((bse n : Nat) : Int) := by
  unfold bse; split <;> omega
theorem bse_le (n : Nat) : bse n ≤ 2147483648 := Nat.min_le_right _ _
/-- The greatest base: a word of its own, since a great numeral stops the walk. -/
def MB : Nat := 2147483648
theorem part_pos (n c : Nat) (hc : 0 < c) : part n c = top (fun m => decide (m ≤ MB) && decide (m * m * c ≤ bse n * bse n)) 32 0 := by
  unfold part sq
  rw [if_neg (by omega)]
  exact top_congr (fun m => (part_test (bse n) c m hc (bse_le n)).symm) _ _
theorem part_any (n c : Nat) (hc : c ≤ 18446744073709551615) (w : World) :
    Calls Try.prog 60 #[.int .u64 n, .int .u64 c] w fun e w' => e = .returned (.int .u64 (part n c : Nat)) ∧ w = w' := by
  have hm := base_if n
  rcases Nat.eq_zero_or_pos c with rfl | hcp
  · have e : part n 0 = bse n := by simp [part]
    rw [e]
    generalize bse n = b at *
    go_enter Try.func60, Try.ntmps60
    go_wp2_with fail
    go_ret
    exact ⟨rfl, rfl⟩
  · obtain ⟨S, hS⟩ : ∃ S, part n c = S := ⟨_, rfl⟩
    rw [hS]
    rw [part_pos n c hcp] at hS
    have hb := bse_le n
    generalize bse n = b at *
    have hbb := mul_lt32 (show b < 4294967296 by omega)
    have eB : IntKind.u64.wrap ((b : Int) * (b : Int)) = ((b * b : Nat) : Int) := by rw [mulN]; exact wrapN _ hbb
    have HF := fun X (hX : X ≤ 2147483648) u => Lib.hid (fits_any X c (b * b) hX hc (by omega) u)
    generalize b * b = Q at *
    have HS := Lib.hid hS
    have ec : ((c : Int) == 0) = false := by simp; omega
    clear hS hc hcp hb hbb
    go_enter Try.func60, Try.ntmps60
    go_wp2_with fail
    go_loop [5, 13] (fun kv i => ∃ r k : Nat, r ≤ 32 ∧ kv = .int .u64 k ∧ i = .int .i64 (32 - r : Nat) ∧ k + 2 ^ r ≤ 4294967296 ∧ top (fun m => decide (m ≤ MB) && decide (m * m * c ≤ Q)) r k = S) (fun _ i => 32 - (intOf i).toNat)
    case atStart => exact ⟨32, 0, by omega, rfl, rfl, by simp, HS.out⟩
    case round =>
      obtain ⟨r, k, hr, rfl, rfl, hk, ht⟩ := hrel
      have HT := Lib.hid ht
      clear ht HS
      cases r with
      | zero =>
        have HT2 : Hid (k = S) := HT
        clear hk HT HF
        go_wp2_with fail
        go_ret
        exact ⟨ret_nat HT2.out, rfl⟩
      | succ m =>
        have hp := pow_lt (show m < 32 by omega)
        have hp0 := Nat.two_pow_pos m
        rw [pow_dbl] at hk
        have e2 : IntKind.u64.wrap ((k : Int) + ((2 ^ m : Nat) : Int)) = ((k + 2 ^ m : Nat) : Int) := by rw [addN]; exact wrapN _ (by omega)
        have e4 : (31 : Int) - ((32 - (m + 1) : Nat) : Int) = (m : Int) := by omega
        have HT2 : Hid (top (fun m => decide (m ≤ MB) && decide (m * m * c ≤ Q)) m (if (decide (k + 2 ^ m ≤ MB) && decide ((k + 2 ^ m) * (k + 2 ^ m) * c ≤ Q)) = true then k + 2 ^ m else k) = S) := by
          have h := HT.out
          unfold top at h
          exact Lib.hid h
        have hi : 32 - (m + 1) < 32 := by omega
        have hi2 : 32 - (m + 1) + 1 = 32 - m := by omega
        clear HT
        obtain ⟨X, hX⟩ : ∃ X, k + 2 ^ m = X := ⟨_, rfl⟩
        have HK1 : X + 2 ^ m ≤ 4294967296 := by omega
        have HK2 : k + 2 ^ m ≤ 4294967296 := by omega
        rw [hX] at e2 HT2
        obtain ⟨M, hM⟩ : ∃ M, 2 ^ m = M := ⟨_, rfl⟩
        rw [hM] at e2 HK1 HK2
        have HM := Lib.hid hM
        have e1 := shl1 m (by omega)
        rw [hM] at e1
        have HI := Lib.hid hi2
        generalize 32 - (m + 1) = i at *
        clear hX hM hi2 hk hp hp0
        rcases Nat.lt_or_ge 2147483648 X with hlt | hge
        · have HT3 : Hid (top (fun m => decide (m ≤ MB) && decide (m * m * c ≤ Q)) m k = S) := by
            have h := HT2.out
            rw [decide_eq_false (by unfold MB; omega : ¬ X ≤ MB)] at h
            exact h
          have t2 : decide ((X : Int) ≤ 2147483648) = false := decide_eq_false (by omega)
          clear HT2 HF hlt
          go_wp2_with fail
          go_round
          case rel => exact ⟨m, k, by omega, rfl, by rw [← HI.out]; go_num, by rw [HM.out]; exact HK2, HT3.out⟩
          case measure => simp [intOf]; omega
        · have hF := HF X hge
          rw [decide_eq_true (show X ≤ MB from hge)] at HT2
          simp only [Bool.true_and] at HT2
          clear HF
          have t2 : decide ((X : Int) ≤ 2147483648) = true := decide_eq_true (by omega)
          clear hge
          generalize decide (X * X * c ≤ Q) = B at *
          cases B
          · go_wp2_with fail
            refine ((hF _).out).mono ?_
            rintro e w' ⟨rfl, rfl⟩
            go_wp2_with fail
            go_round
            case rel => exact ⟨m, k, by omega, rfl, by rw [← HI.out]; go_num, by rw [HM.out]; exact HK2, HT2.out⟩
            case measure => simp [intOf]; omega
          · go_wp2_with fail
            refine ((hF _).out).mono ?_
            rintro e w' ⟨rfl, rfl⟩
            go_wp2_with fail
            go_round
            case rel => exact ⟨m, X, by omega, rfl, by rw [← HI.out]; go_num, by rw [HM.out]; exact HK1, HT2.out⟩
            case measure => simp [intOf]; omega
theorem parts_any (n : Int) (w : World) :
    Calls Try.prog 66 #[.int .i64 n] w fun e w' => e = .returned (.int .u64 (2 ^ slo n : Nat)) ∧ w = w' := by
  obtain ⟨S, hS⟩ : ∃ S, slo n = S := ⟨_, rfl⟩
  rw [hS]
  have h1 : S ≤ 16 := by rw [← hS]; exact slo_le n
  have h2 : ∀ k : Nat, k < S → (k : Int) < n := by unfold slo at hS; omega
  have h3 : S = 16 ∨ n ≤ S := by unfold slo at hS; omega
  have H2 := Lib.hid h2
  have H3 := Lib.hid h3
  clear hS h2 h3
  go_enter Try.func66, Try.ntmps66
  go_wp2_with fail
  go_loop [3, 4] (fun nv i => ∃ k : Nat, k ≤ S ∧ i = .int .i64 k ∧ nv = .int .u64 (2 ^ k : Nat)) (fun _ i => S - (intOf i).toNat)
  case atStart => exact ⟨0, by omega, rfl, rfl⟩
  case round =>
    obtain ⟨k, hk, rfl, rfl⟩ := hrel
    by_cases hlt : k < S
    · have h4 := H2.out k hlt
      have hp := pow_lt (show k < 32 by omega)
      have hp0 := Nat.two_pow_pos k
      have hd : Hid (2 ^ (k + 1) = 2 ^ k * 2) := Lib.hid (Nat.pow_succ 2 k)
      have e2 : IntKind.u64.wrap (((2 ^ k : Nat) : Int) * 2) = ((2 ^ k * 2 : Nat) : Int) := wrapN (2 ^ k * 2) (by omega)
      generalize 2 ^ k = M at *
      clear hp hp0
      go_wp2_with fail
      go_round
      case rel => exact ⟨k + 1, by omega, by go_num, by rw [hd.out]; exact congrArg (Value.int .u64) (by push_cast; rfl)⟩
      case measure => simp [intOf]; omega
    · obtain rfl : k = S := by omega
      obtain ⟨M, hM⟩ : ∃ M, 2 ^ k = M := ⟨_, rfl⟩
      rw [hM]
      have HM := Lib.hid hM
      have h5 : 16 ≤ (k : Int) ∨ n ≤ (k : Int) := by rcases H3.out with h | h <;> omega
      clear hM H3
      rcases h5 with h5 | h5
      · by_cases h7 : (k : Int) < n
        · go_wp2_with fail
          go_ret
          exact ⟨ret_nat HM.out.symm, rfl⟩
        · go_wp2_with fail
          go_ret
          exact ⟨ret_nat HM.out.symm, rfl⟩
      · go_wp2_with fail
        go_ret
        exact ⟨ret_nat HM.out.symm, rfl⟩
theorem rbase_any (n : Nat) (w : World) :
    Calls Try.prog 61 #[.int .u64 n] w fun e w' => e = .returned (.int .u64 (bse n : Nat)) ∧ w = w' := by
  rcases Nat.lt_or_ge 2147483648 n with hlt | hge
  · have e : bse n = 2147483648 := by unfold bse; omega
    rw [e]
    have t1 : decide (2147483648 < n) = true := decide_eq_true (by omega)
    have t2 : decide ((n : Int) > 2147483648) = true := decide_eq_true (by omega)
    have t3 : decide (2147483648 < (n : Int)) = true := decide_eq_true (by omega)
    clear e hlt
    go_enter Try.func61, Try.ntmps61
    go_wp2_with fail
    go_ret
    exact ⟨rfl, rfl⟩
  · have e : bse n = n := by unfold bse; omega
    rw [e]
    have t1 : decide (2147483648 < n) = false := decide_eq_false (by omega)
    have t2 : decide ((n : Int) > 2147483648) = false := decide_eq_false (by omega)
    have t3 : decide (2147483648 < (n : Int)) = false := decide_eq_false (by omega)
    clear e hge
    go_enter Try.func61, Try.ntmps61
    go_wp2_with fail
    go_ret
    exact ⟨rfl, rfl⟩
theorem rpart_any (n c : Nat) (w : World) :
    Calls Try.prog 50 #[.int .u64 n, .int .u64 c] w fun e w' => Gives w (.int .u64 (part n c : Nat)) e w' := by
  have H1 := fun u => Lib.hid (rbase_any n u)
  rcases Nat.eq_zero_or_pos c with rfl | hcp
  · have e : part n 0 = bse n := by simp [part]
    rw [e]
    generalize bse n = b at *
    go_enter Try.func50, Try.ntmps50
    go_wp2_with fail
    refine ((H1 _).out).mono ?_
    rintro e w' ⟨rfl, rfl⟩
    go_wp2_with fail
    go_ret
    exact ⟨rfl, Upd.refl _ _⟩
  · have e : part n c = sq (bse n * bse n / c) := by unfold part; rw [if_neg (by omega)]
    rw [e]
    have hb := bse_le n
    generalize bse n = b at *
    have hbb := mul_lt32 (show b < 4294967296 by omega)
    have eB : IntKind.u64.wrap ((b : Int) * (b : Int)) = ((b * b : Nat) : Int) := by rw [mulN]; exact wrapN _ hbb
    have hq : b * b / c ≤ b * b := Nat.div_le_self _ _
    have H2 := fun u => Lib.hid (rsqrt_any (b * b / c) (by omega) u)
    generalize b * b = Q at *
    have eD : (Q : Int) / (c : Int) = ((Q / c : Nat) : Int) := rfl
    have ec : ((c : Int) == 0) = false := by simp; omega
    have hc1 : (1 : Int) ≤ (c : Int) := by omega
    have eW : IntKind.u64.wrap ((Q / c : Nat) : Int) = ((Q / c : Nat) : Int) := wrapN _ (by omega)
    generalize Q / c = D at *
    generalize sq D = S at *
    clear hb hbb hq
    go_enter Try.func50, Try.ntmps50
    go_wp2_with fail
    refine ((H1 _).out).mono ?_
    rintro e w' ⟨rfl, rfl⟩
    go_wp2_with fail
    refine ((H2 _).out).mono ?_
    rintro e w2 ⟨rfl, u2⟩
    go_wp2_with fail
    go_ret
    exact ⟨rfl, u2⟩
theorem shr_nat (m S : Nat) : (m : Int) / 2 ^ S = ((m / 2 ^ S : Nat) : Int) := by push_cast; rfl
theorem less_wrap (m q : Nat) (hm : m ≤ 18446744073709551615) (hq : q ≤ m) : IntKind.u64.wrap ((m : Int) - (q : Int)) = ((m - q : Nat) : Int) := by
  rw [IntKind.wrap_u64]; omega
theorem follow_any (m x : Nat) (s : Int) (hm : m ≤ 18446744073709551615) (hx : x ≤ 18446744073709551615) (w : World) :
    Calls Try.prog 52 #[.int .u64 m, .int .u64 x, .int .i64 s] w fun e w' => e = .returned (.int .u64 (fol m x (slo s) : Nat)) ∧ w = w' := by
  have H1 := fun u => Lib.hid (bound_any s u)
  have hs := slo_le s
  unfold fol
  generalize slo s = S at *
  have e1 := shr_nat m S
  have hq : m / 2 ^ S ≤ m := Nat.div_le_self _ _
  have H2 := fun u => Lib.hid (sat_add (m - m / 2 ^ S) x u (Nat.le_trans (Nat.sub_le _ _) hm) hx)
  have e2 := less_wrap m (m / 2 ^ S) hm hq
  generalize m / 2 ^ S = q at *
  generalize m - q = d at *
  generalize min (d + x) 18446744073709551615 = r at *
  clear hm hx hq
  go_enter Try.func52, Try.ntmps52
  go_wp2_with fail
  refine ((H1 _).out).mono ?_
  rintro e w' ⟨rfl, rfl⟩
  go_wp2_with fail
  refine ((H2 _).out).mono ?_
  rintro e w' ⟨rfl, rfl⟩
  go_wp2_with fail
  go_ret
  exact ⟨rfl, rfl⟩
theorem mean_any (m : Nat) (s : Int) (w : World) :
    Calls Try.prog 53 #[.int .u64 m, .int .i64 s] w fun e w' => e = .returned (.int .u64 (m / 2 ^ slo s : Nat)) ∧ w = w' := by
  have H1 := fun u => Lib.hid (bound_any s u)
  have hs := slo_le s
  generalize slo s = S at *
  have e1 := shr_nat m S
  generalize m / 2 ^ S = q at *
  go_enter Try.func53, Try.ntmps53
  go_wp2_with fail
  refine ((H1 _).out).mono ?_
  rintro e w' ⟨rfl, rfl⟩
  go_wp2_with fail
  go_ret
  exact ⟨rfl, rfl⟩
theorem rfollow_any (m x : Nat) (s : Int) (hm : m ≤ 18446744073709551615) (hx : x ≤ 18446744073709551615) (w : World) :
    Calls Try.prog 56 #[.int .u64 m, .int .u64 x, .int .i64 s] w fun e w' => Gives w (.int .u64 (fol m x (slo s) : Nat)) e w' := by
  have H1 := fun u => Lib.hid (parts_any s u)
  unfold fol
  generalize slo s = S at *
  have hp0 : (1 : Int) ≤ ((2 ^ S : Nat) : Int) := by have := Nat.two_pow_pos S; omega
  have e1 : (m : Int) / ((2 ^ S : Nat) : Int) = ((m / 2 ^ S : Nat) : Int) := rfl
  have hq : m / 2 ^ S ≤ m := Nat.div_le_self _ _
  have hw := wrapN (m / 2 ^ S) (by omega)
  have H2 := fun u => Lib.hid (Sat.ref_add (m - m / 2 ^ S) x (Nat.le_trans (Nat.sub_le _ _) hm) hx u)
  have e2 := less_wrap m (m / 2 ^ S) hm hq
  generalize m / 2 ^ S = q at *
  generalize 2 ^ S = D at *
  generalize m - q = d at *
  generalize min (d + x) 18446744073709551615 = r at *
  have ed : ((D : Int) == 0) = false := by simp; omega
  clear hm hx hq
  go_enter Try.func56, Try.ntmps56
  go_wp2_with fail
  refine ((H1 _).out).mono ?_
  rintro e w' ⟨rfl, rfl⟩
  go_wp2_with fail
  refine ((H2 _).out).mono ?_
  rintro e w2 ⟨rfl, u2⟩
  go_wp2_with fail
  go_ret
  exact ⟨rfl, u2⟩
theorem rmean_any (m : Nat) (s : Int) (hm : m ≤ 18446744073709551615) (w : World) :
    Calls Try.prog 57 #[.int .u64 m, .int .i64 s] w fun e w' => e = .returned (.int .u64 (m / 2 ^ slo s : Nat)) ∧ w = w' := by
  have H1 := fun u => Lib.hid (parts_any s u)
  generalize slo s = S at *
  have hp0 : (1 : Int) ≤ ((2 ^ S : Nat) : Int) := by have := Nat.two_pow_pos S; omega
  have e1 : (m : Int) / ((2 ^ S : Nat) : Int) = ((m / 2 ^ S : Nat) : Int) := rfl
  have hq : m / 2 ^ S ≤ m := Nat.div_le_self _ _
  have hw := wrapN (m / 2 ^ S) (by omega)
  generalize m / 2 ^ S = q at *
  generalize 2 ^ S = D at *
  have ed : ((D : Int) == 0) = false := by simp; omega
  clear hm hq
  go_enter Try.func57, Try.ntmps57
  go_wp2_with fail
  refine ((H1 _).out).mono ?_
  rintro e w' ⟨rfl, rfl⟩
  go_wp2_with fail
  go_ret
  exact ⟨rfl, rfl⟩
end Go.Proofs.Ytgmiggnlhcldlaa.Root
