/- Sat3, Sat4, Sat5, Root, Root2, one behind the other. -/
import Derived.Test.YtdddfmdcjjbegaaGreatMeSat
import Derived.Deep.RegionHeld3
import Derived.Test.YtdddfmdcjjbegaaGreatMeB
namespace Go.Proofs.YtdddfmdcjjbegaaGreat.Sat
open Go.RowKit Go.Proofs BigFrame
open Wide (four dg Gives of_any times_any)

set_option maxHeartbeats 1000000
theorem ref_add (a b : Nat) (ha : a ≤ 18446744073709551615) (hb : b ≤ 18446744073709551615) (w : World) :
 Calls Tryz.prog 19 #[.int .u64 a, .int .u64 b] w fun e w' => Gives w (.int .u64 (min (a + b) 18446744073709551615 : Nat)) e w' := by
 have h1 := fun u => Lib.hid (of_any a ha u)
 have h2 := fun u => Lib.hid (of_any b hb u)
 have h3 := fun u => Lib.hid (plus_num a b (by omega) u)
 have h4 := fun u => Lib.hid (cap_num (a + b) (by omega) u)
 generalize four (dg a) = v1 at *
 generalize four (dg b) = v2 at *
 generalize four (dg (a + b)) = v3 at *
 generalize min (a + b) 18446744073709551615 = n at *
 clear ha hb
 go_enter Tryz.func19, Tryz.ntmps19
 go_wp2_with fail
 refine (h1 _).out.mono ?_
 rintro e w1 ⟨rfl, u1⟩
 go_wp2_with fail
 refine (h2 _).out.mono ?_
 rintro e w2 ⟨rfl, u2⟩
 go_wp2_with fail
 refine (h3 _).out.mono ?_
 rintro e w3 ⟨rfl, u3⟩
 go_wp2_with fail
 refine (h4 _).out.mono ?_
 rintro e w4 ⟨rfl, u4⟩
 go_wp2_with fail
 go_ret
 exact ⟨rfl, ((u1.trans u2 (fun _ _ h => h)).trans u3 (fun _ _ h => h)).trans u4 (fun _ _ h => h)⟩

theorem ref_sub (a b : Nat) (ha : a ≤ 18446744073709551615) (hb : b ≤ 18446744073709551615) (w : World) :
 Calls Tryz.prog 116 #[.int .u64 a, .int .u64 b] w fun e w' => e = .returned (.int .u64 (a - b : Nat)) ∧ w = w' := by
 rcases Nat.lt_or_ge a b with hlt | hge
 · have e1 : a - b = 0 := by omega
   rw [e1]
   go_enter Tryz.func116, Tryz.ntmps116
   go_wp2
   go_ret
   exact ⟨rfl, rfl⟩
 · have e1 : IntKind.u64.wrap ((a : Int) - (b : Int)) = ((a - b : Nat) : Int) := by rw [IntKind.wrap_u64]; omega
   have e2 : ((a - b : Nat) : Int) = (a : Int) - (b : Int) := by omega
   go_enter Tryz.func116, Tryz.ntmps116
   go_wp2
   go_ret
   exact ⟨by simp [e2], rfl⟩

theorem ref_mul (a b : Nat) (ha : a ≤ 18446744073709551615) (hb : b ≤ 18446744073709551615) (w : World) :
 Calls Tryz.prog 16 #[.int .u64 a, .int .u64 b] w fun e w' => Gives w (.int .u64 (min (a * b) 18446744073709551615 : Nat)) e w' := by
 have h1 := fun u => Lib.hid (times_any a b ha hb u)
 have h4 := fun u => Lib.hid (cap_num (a * b) (Nat.lt_of_le_of_lt (prod_lt ha hb) (by omega)) u)
 generalize four (dg (a * b)) = v3 at *
 generalize min (a * b) 18446744073709551615 = n at *
 clear ha hb
 go_enter Tryz.func16, Tryz.ntmps16
 go_wp2_with fail
 refine (h1 _).out.mono ?_
 rintro e w1 ⟨rfl, u1⟩
 go_wp2_with fail
 refine (h4 _).out.mono ?_
 rintro e w2 ⟨rfl, u2⟩
 go_wp2_with fail
 go_ret
 exact ⟨rfl, u1.trans u2 (fun _ _ h => h)⟩

theorem ref_muladd (a b c : Nat) (ha : a ≤ 18446744073709551615) (hb : b ≤ 18446744073709551615) (hc : c ≤ 18446744073709551615) (w : World) :
 Calls Tryz.prog 60 #[.int .u64 a, .int .u64 b, .int .u64 c] w fun e w' => Gives w (.int .u64 (min (a + b * c) 18446744073709551615 : Nat)) e w' := by
 have hp := prod_lt hb hc
 have h1 := fun u => Lib.hid (of_any a ha u)
 have h2 := fun u => Lib.hid (times_any b c hb hc u)
 have h3 := fun u => Lib.hid (plus_num a (b * c) (by omega) u)
 have h4 := fun u => Lib.hid (cap_num (a + b * c) (by omega) u)
 generalize four (dg a) = v1 at *
 generalize four (dg (b * c)) = v2 at *
 generalize four (dg (a + b * c)) = v3 at *
 generalize min (a + b * c) 18446744073709551615 = n at *
 clear ha hb hc hp
 go_enter Tryz.func60, Tryz.ntmps60
 go_wp2_with fail
 refine (h1 _).out.mono ?_
 rintro e w1 ⟨rfl, u1⟩
 go_wp2_with fail
 refine (h2 _).out.mono ?_
 rintro e w2 ⟨rfl, u2⟩
 go_wp2_with fail
 refine (h3 _).out.mono ?_
 rintro e w3 ⟨rfl, u3⟩
 go_wp2_with fail
 refine (h4 _).out.mono ?_
 rintro e w4 ⟨rfl, u4⟩
 go_wp2_with fail
 go_ret
 exact ⟨rfl, ((u1.trans u2 (fun _ _ h => h)).trans u3 (fun _ _ h => h)).trans u4 (fun _ _ h => h)⟩

end Go.Proofs.YtdddfmdcjjbegaaGreat.Sat
namespace Go.Proofs.YtdddfmdcjjbegaaGreat.Sat
open Go.RowKit Go.Proofs BigFrame
open Wide (four dg Gives of_any times_any)
open Bits (wrapN)

theorem shl1 (k : Nat) (hk : k < 64) : IntKind.u64.wrap (2 ^ k) = ((2 ^ k : Nat) : Int) := by
 have h : 2 ^ k ≤ 2 ^ 63 := Nat.pow_le_pow_right (by omega) (by omega)
 have := wrapN (2 ^ k) (by simp only [Nat.reducePow] at h; omega)
 push_cast at this ⊢
 exact this

set_option maxHeartbeats 1000000
end Go.Proofs.YtdddfmdcjjbegaaGreat.Sat
namespace Go.Proofs.YtdddfmdcjjbegaaGreat.Root
open Go.RowKit Go.Proofs BigFrame
open Wide (Gives four dg)
open Bits (mul64 sat_add mulN addN wrapN wrapM)
open Sat (shl1)
set_option maxHeartbeats 1000000
set_option maxRecDepth 100000
theorem pow_lt {m : Nat} (h : m < 32) : 2 ^ m ≤ 2147483648 := by
 have : 2 ^ m ≤ 2 ^ 31 := Nat.pow_le_pow_right (by omega) (by omega)
 simpa using this
theorem pow_dbl (m : Nat) : 2 ^ (m + 1) = 2 ^ m + 2 ^ m := by rw [Nat.pow_succ]; omega
theorem mul_lt32 {x : Nat} (h : x < 4294967296) : x * x < 18446744073709551616 := by
 have := Nat.mul_le_mul (show x ≤ 4294967295 by omega) (show x ≤ 4294967295 by omega)
 omega
theorem ret_nat {k : IntKind} {a b : Nat} (h : a = b) : Ending.returned (.int k (a : Int)) = .returned (.int k (b : Int)) := by rw [h]

theorem rsqrt_any (n : Nat) (hn : n ≤ 18446744073709551615) (w : World) :
 Calls Tryz.prog 131 #[.int .u64 n] w fun e w' => Gives w (.int .u64 (sq n : Nat)) e w' := by
 obtain ⟨S, hS⟩ : ∃ S, sq n = S := ⟨_, rfl⟩
 have HS : Hid (top (fun m => decide (m * m ≤ n)) 32 0 = S) := Lib.hid hS
 rw [hS]
 clear hS
 have h1 := fun u => Lib.hid (Wide.of_any n hn u)
 go_enter Tryz.func131, Tryz.ntmps131
 go_wp2_with fail
 go_loopw [3, 4] (fun kv i wr => ∃ r k : Nat, r ≤ 32 ∧ kv = .int .u64 k ∧ (∃ x : Int, i = .int .i64 x ∧ x = (r : Int) - 1) ∧ k + 2 ^ r ≤ 4294967296 ∧ top (fun m => decide (m * m ≤ n)) r k = S ∧ Upd Nowhere w wr) (fun _ i _ => (intOf i + 1).toNat)
 case atStart => exact ⟨32, 0, by omega, rfl, ⟨31, rfl, rfl⟩, by simp, HS.out, Upd.refl _ _⟩
 case round =>
  obtain ⟨r, k, hr, rfl, ⟨x, rfl, hx⟩, hk, ht, hu⟩ := hrel
  have HT := Lib.hid ht
  clear ht
  cases r with
  | zero =>
    obtain rfl : x = -1 := by omega
    have HT2 : Hid (k = S) := HT
    clear hk HT h1 hx
    go_wp2_with fail
    go_ret
    exact ⟨ret_nat HT2.out, hu⟩
  | succ m =>
    obtain rfl : x = (m : Int) := by omega
    have hp := pow_lt (show m < 32 by omega)
    have hp0 := Nat.two_pow_pos m
    rw [pow_dbl] at hk
    have e2 : IntKind.u64.wrap ((k : Int) + ((2 ^ m : Nat) : Int)) = ((k + 2 ^ m : Nat) : Int) := by rw [addN]; exact wrapN _ (by omega)
    have HT2 : Hid (top (fun m => decide (m * m ≤ n)) m (if (k + 2 ^ m) * (k + 2 ^ m) ≤ n then k + 2 ^ m else k) = S) := by
     have h := HT.out
     unfold top at h
     exact Lib.hid (by simpa using h)
    clear HT
    obtain ⟨X, hX⟩ : ∃ X, k + 2 ^ m = X := ⟨_, rfl⟩
    have HK1 : X + 2 ^ m ≤ 4294967296 := by omega
    have HK2 : k + 2 ^ m ≤ 4294967296 := by omega
    have hXM : X ≤ 18446744073709551615 := by have := Nat.two_pow_pos m; omega
    rw [hX] at e2 HT2
    have h2 := fun u => Lib.hid (Wide.times_any X X hXM hXM u)
    have h3 := fun u => Lib.hid (Sat.less_num n (X * X) (by omega) (Nat.lt_of_le_of_lt (Sat.prod_lt hXM hXM) (by omega)) u)
    obtain ⟨M, hM⟩ : ∃ M, 2 ^ m = M := ⟨_, rfl⟩
    rw [hM] at e2 HK1 HK2
    have HM := Lib.hid hM
    have e1 := shl1 m (by omega)
    rw [hM] at e1
    generalize X * X = Y at *
    generalize four (dg n) = A at *
    generalize four (dg Y) = B at *
    clear hX hM hk hp hp0 hXM hx
    rcases Nat.lt_or_ge n Y with hlt | hge
    · have HT3 : Hid (top (fun m => decide (m * m ≤ n)) m k = S) := by
       have h := HT2.out
       rw [if_neg (by omega)] at h
       exact h
      rw [decide_eq_true hlt] at h3
      go_wp2_with fail
      refine ((h1 _).out).mono ?_
      rintro e w1 ⟨rfl, u1⟩
      go_wp2_with fail
      refine ((h2 _).out).mono ?_
      rintro e w2 ⟨rfl, u2⟩
      go_wp2_with fail
      refine ((h3 _).out).mono ?_
      rintro e w3 ⟨rfl, u3⟩
      go_wp2_with fail
      go_roundw
      case rel => exact ⟨m, k, by omega, rfl, ⟨_, rfl, by omega⟩, by rw [HM.out]; exact HK2, HT3.out, ((hu.trans u1 (fun _ _ h => h)).trans u2 (fun _ _ h => h)).trans u3 (fun _ _ h => h)⟩
      case measure => simp [intOf]
    · have HT3 : Hid (top (fun m => decide (m * m ≤ n)) m X = S) := by
       have h := HT2.out
       rw [if_pos hge] at h
       exact h
      rw [decide_eq_false (by omega : ¬ n < Y)] at h3
      go_wp2_with fail
      refine ((h1 _).out).mono ?_
      rintro e w1 ⟨rfl, u1⟩
      go_wp2_with fail
      refine ((h2 _).out).mono ?_
      rintro e w2 ⟨rfl, u2⟩
      go_wp2_with fail
      refine ((h3 _).out).mono ?_
      rintro e w3 ⟨rfl, u3⟩
      go_wp2_with fail
      go_roundw
      case rel => exact ⟨m, X, by omega, rfl, ⟨_, rfl, by omega⟩, by rw [HM.out]; exact HK1, HT3.out, ((hu.trans u1 (fun _ _ h => h)).trans u2 (fun _ _ h => h)).trans u3 (fun _ _ h => h)⟩
      case measure => simp [intOf]
theorem fits_any (k c s : Nat) (hk : k ≤ 2147483648) (hc : c ≤ 18446744073709551615) (hs : s ≤ 18446744073709551615) (w : World) :
 Calls Tryz.prog 136 #[.int .u64 k, .int .u64 c, .int .u64 s] w fun e w' => e = .returned (.bool (decide (k * k * c ≤ s))) ∧ w = w' := by
 have hkk := mul_lt32 (show k < 4294967296 by omega)
 have e1 : IntKind.u64.wrap ((k : Int) * (k : Int)) = ((k * k : Nat) : Int) := by rw [mulN]; exact wrapN _ hkk
 have h1 := fun u => Lib.hid (mul64 (k * k) c hkk (by omega) u)
 generalize k * k = Q at *
 have hd : decide (Q * c ≤ s) = (decide (Q * c / 18446744073709551616 = 0) && decide (Q * c % 18446744073709551616 ≤ s)) := by
  rw [Bool.eq_iff_iff]; simp only [Bool.and_eq_true, decide_eq_true_eq]; omega
 rw [hd]
 generalize Q * c / 18446744073709551616 = hi at *
 generalize Q * c % 18446744073709551616 = lo at *
 clear hd hkk hk hc hs
 rcases Nat.eq_zero_or_pos hi with rfl | hpos
 · rcases Nat.lt_or_ge s lo with hlt | hge
   · go_enter Tryz.func136, Tryz.ntmps136
     go_wp2_with fail
     refine ((h1 _).out).mono ?_
     rintro e w' ⟨rfl, rfl⟩
     go_wp2_with fail
     go_ret
     exact ⟨ret_bool (by simp), rfl⟩
   · go_enter Tryz.func136, Tryz.ntmps136
     go_wp2_with fail
     refine ((h1 _).out).mono ?_
     rintro e w' ⟨rfl, rfl⟩
     go_wp2_with fail
     go_ret
     exact ⟨ret_bool (by simp; omega), rfl⟩
 · have e2 : ((hi : Int) == 0) = false := by simp; omega
   have e3 : Hid (decide (hi = 0) = false) := Lib.hid (by simp; omega)
   go_enter Tryz.func136, Tryz.ntmps136
   go_wp2_with fail
   refine ((h1 _).out).mono ?_
   rintro e w' ⟨rfl, rfl⟩
   go_wp2_with fail
   go_ret
   exact ⟨ret_bool (by rw [e3.out]; simp), rfl⟩
theorem bound_any (n : Int) (w : World) :
 Calls Tryz.prog 121 #[.int .i64 n] w fun e w' => e = .returned (.int .i64 (slo n : Nat)) ∧ w = w' := by
 obtain ⟨q, hq⟩ : ∃ q : Nat, (if n < 0 then (0 : Int) else n) = (q : Int) := ⟨(if n < 0 then (0 : Int) else n).toNat, by split <;> omega⟩
 have hs : (if (16 : Int) < (q : Int) then (16 : Int) else (q : Int)) = ((slo n : Nat) : Int) := by
  have h2 : (q : Int) = max n 0 := by rw [← hq]; split <;> omega
  unfold slo; split <;> omega
 generalize slo n = S at *
 go_enter Tryz.func121, Tryz.ntmps121
 go_wp2_with fail
 go_ret
 exact ⟨rfl, rfl⟩
end Go.Proofs.YtdddfmdcjjbegaaGreat.Root
namespace Go.Proofs.YtdddfmdcjjbegaaGreat.Root
open Go.RowKit Go.Proofs BigFrame
open Wide (Gives four dg)
open Bits (mul64 sat_add mulN addN wrapN wrapM len64)
open Sat (shl1)
set_option maxHeartbeats 1000000
set_option maxRecDepth 100000
theorem base_if (n : Nat) : (if (2147483648 : Int) < (n : Int) then (2147483648 : Int) else (n : Int)) = ((bse n : Nat) : Int) := by
 unfold bse; split <;> omega
theorem bse_le (n : Nat) : bse n ≤ 2147483648 := Nat.min_le_right _ _
/-- The greatest base: a word of its own, since a great numeral stops the walk. -/
def MB : Nat := 2147483648
theorem part_pos (n c : Nat) (hc : 0 < c) : part n c = top (fun m => decide (m ≤ MB) && decide (m * m * c ≤ bse n * bse n)) 32 0 := by
 unfold part sq
 rw [if_neg (by omega)]
 exact top_congr (fun m => (part_test (bse n) c m hc (bse_le n)).symm) _ _
theorem part_any (n c : Nat) (hc : c ≤ 18446744073709551615) (w : World) :
 Calls Tryz.prog 125 #[.int .u64 n, .int .u64 c] w fun e w' => e = .returned (.int .u64 (part n c : Nat)) ∧ w = w' := by
 have hm := base_if n
 rcases Nat.eq_zero_or_pos c with rfl | hcp
 · have e : part n 0 = bse n := by simp [part]
   rw [e]
   generalize bse n = b at *
   go_enter Tryz.func125, Tryz.ntmps125
   go_wp2_with fail
   go_ret
   exact ⟨rfl, rfl⟩
 · obtain ⟨S, hS⟩ : ∃ S, part n c = S := ⟨_, rfl⟩
   rw [hS]
   rw [part_pos n c hcp] at hS
   have hb := bse_le n
   generalize bse n = b at *
   have hbb := mul_lt32 (show b < 4294967296 by omega)
   have eB : IntKind.u64.wrap ((b : Int) * (b : Int)) = ((b * b : Nat) : Int) := by rw [mulN]; exact wrapN _ hbb
   have HF := fun X (hX : X ≤ 2147483648) u => Lib.hid (fits_any X c (b * b) hX hc (by omega) u)
   generalize b * b = Q at *
   have HS := Lib.hid hS
   have ec : ((c : Int) == 0) = false := by simp; omega
   clear hS hc hcp hb hbb
   go_enter Tryz.func125, Tryz.ntmps125
   go_wp2_with fail
   go_loop [5, 13] (fun kv i => ∃ r k : Nat, r ≤ 32 ∧ kv = .int .u64 k ∧ i = .int .i64 (32 - r : Nat) ∧ k + 2 ^ r ≤ 4294967296 ∧ top (fun m => decide (m ≤ MB) && decide (m * m * c ≤ Q)) r k = S) (fun _ i => 32 - (intOf i).toNat)
   case atStart => exact ⟨32, 0, by omega, rfl, rfl, by simp, HS.out⟩
   case round =>
    obtain ⟨r, k, hr, rfl, rfl, hk, ht⟩ := hrel
    have HT := Lib.hid ht
    clear ht HS
    cases r with
    | zero =>
      have HT2 : Hid (k = S) := HT
      clear hk HT HF
      go_wp2_with fail
      go_ret
      exact ⟨ret_nat HT2.out, rfl⟩
    | succ m =>
      have hp := pow_lt (show m < 32 by omega)
      have hp0 := Nat.two_pow_pos m
      rw [pow_dbl] at hk
      have e2 : IntKind.u64.wrap ((k : Int) + ((2 ^ m : Nat) : Int)) = ((k + 2 ^ m : Nat) : Int) := by rw [addN]; exact wrapN _ (by omega)
      have e4 : (31 : Int) - ((32 - (m + 1) : Nat) : Int) = (m : Int) := by omega
      have HT2 : Hid (top (fun m => decide (m ≤ MB) && decide (m * m * c ≤ Q)) m (if (decide (k + 2 ^ m ≤ MB) && decide ((k + 2 ^ m) * (k + 2 ^ m) * c ≤ Q)) = true then k + 2 ^ m else k) = S) := by
       have h := HT.out
       unfold top at h
       exact Lib.hid h
      have hi : 32 - (m + 1) < 32 := by omega
      have hi2 : 32 - (m + 1) + 1 = 32 - m := by omega
      clear HT
      obtain ⟨X, hX⟩ : ∃ X, k + 2 ^ m = X := ⟨_, rfl⟩
      have HK1 : X + 2 ^ m ≤ 4294967296 := by omega
      have HK2 : k + 2 ^ m ≤ 4294967296 := by omega
      rw [hX] at e2 HT2
      obtain ⟨M, hM⟩ : ∃ M, 2 ^ m = M := ⟨_, rfl⟩
      rw [hM] at e2 HK1 HK2
      have HM := Lib.hid hM
      have e1 := shl1 m (by omega)
      rw [hM] at e1
      have HI := Lib.hid hi2
      generalize 32 - (m + 1) = i at *
      clear hX hM hi2 hk hp hp0
      rcases Nat.lt_or_ge 2147483648 X with hlt | hge
      · have HT3 : Hid (top (fun m => decide (m ≤ MB) && decide (m * m * c ≤ Q)) m k = S) := by
         have h := HT2.out
         rw [decide_eq_false (by unfold MB; omega : ¬ X ≤ MB)] at h
         exact h
        have t2 : decide ((X : Int) ≤ 2147483648) = false := decide_eq_false (by omega)
        clear HT2 HF hlt
        go_wp2_with fail
        go_round
        case rel => exact ⟨m, k, by omega, rfl, by rw [← HI.out]; go_num, by rw [HM.out]; exact HK2, HT3.out⟩
        case measure => simp [intOf]; omega
      · have hF := HF X hge
        rw [decide_eq_true (show X ≤ MB from hge)] at HT2
        simp only [Bool.true_and] at HT2
        clear HF
        have t2 : decide ((X : Int) ≤ 2147483648) = true := decide_eq_true (by omega)
        clear hge
        generalize decide (X * X * c ≤ Q) = B at *
        cases B
        · go_wp2_with fail
          refine ((hF _).out).mono ?_
          rintro e w' ⟨rfl, rfl⟩
          go_wp2_with fail
          go_round
          case rel => exact ⟨m, k, by omega, rfl, by rw [← HI.out]; go_num, by rw [HM.out]; exact HK2, HT2.out⟩
          case measure => simp [intOf]; omega
        · go_wp2_with fail
          refine ((hF _).out).mono ?_
          rintro e w' ⟨rfl, rfl⟩
          go_wp2_with fail
          go_round
          case rel => exact ⟨m, X, by omega, rfl, by rw [← HI.out]; go_num, by rw [HM.out]; exact HK1, HT2.out⟩
          case measure => simp [intOf]; omega
theorem parts_any (n : Int) (w : World) :
 Calls Tryz.prog 112 #[.int .i64 n] w fun e w' => e = .returned (.int .u64 (2 ^ slo n : Nat)) ∧ w = w' := by
 obtain ⟨S, hS⟩ : ∃ S, slo n = S := ⟨_, rfl⟩
 rw [hS]
 have h1 : S ≤ 16 := by rw [← hS]; exact slo_le n
 have h2 : ∀ k : Nat, k < S → (k : Int) < n := by unfold slo at hS; omega
 have h3 : S = 16 ∨ n ≤ S := by unfold slo at hS; omega
 have H2 := Lib.hid h2
 have H3 := Lib.hid h3
 clear hS h2 h3
 go_enter Tryz.func112, Tryz.ntmps112
 go_wp2_with fail
 go_loop [3, 4] (fun nv i => ∃ k : Nat, k ≤ S ∧ i = .int .i64 k ∧ nv = .int .u64 (2 ^ k : Nat)) (fun _ i => S - (intOf i).toNat)
 case atStart => exact ⟨0, by omega, rfl, rfl⟩
 case round =>
  obtain ⟨k, hk, rfl, rfl⟩ := hrel
  by_cases hlt : k < S
  · have h4 := H2.out k hlt
    have hp := pow_lt (show k < 32 by omega)
    have hp0 := Nat.two_pow_pos k
    have hd : Hid (2 ^ (k + 1) = 2 ^ k * 2) := Lib.hid (Nat.pow_succ 2 k)
    have e2 : IntKind.u64.wrap (((2 ^ k : Nat) : Int) * 2) = ((2 ^ k * 2 : Nat) : Int) := wrapN (2 ^ k * 2) (by omega)
    generalize 2 ^ k = M at *
    clear hp hp0
    go_wp2_with fail
    go_round
    case rel => exact ⟨k + 1, by omega, by go_num, by rw [hd.out]; exact congrArg (Value.int .u64) (by push_cast; rfl)⟩
    case measure => simp [intOf]; omega
  · obtain rfl : k = S := by omega
    obtain ⟨M, hM⟩ : ∃ M, 2 ^ k = M := ⟨_, rfl⟩
    rw [hM]
    have HM := Lib.hid hM
    have h5 : 16 ≤ (k : Int) ∨ n ≤ (k : Int) := by rcases H3.out with h | h <;> omega
    clear hM H3
    rcases h5 with h5 | h5
    · by_cases h7 : (k : Int) < n
      · go_wp2_with fail
        go_ret
        exact ⟨ret_nat HM.out.symm, rfl⟩
      · go_wp2_with fail
        go_ret
        exact ⟨ret_nat HM.out.symm, rfl⟩
    · go_wp2_with fail
      go_ret
      exact ⟨ret_nat HM.out.symm, rfl⟩
theorem rbase_any (n : Nat) (w : World) :
 Calls Tryz.prog 130 #[.int .u64 n] w fun e w' => e = .returned (.int .u64 (bse n : Nat)) ∧ w = w' := by
 rcases Nat.lt_or_ge 2147483648 n with hlt | hge
 · have e : bse n = 2147483648 := by unfold bse; omega
   rw [e]
   have t1 : decide (2147483648 < n) = true := decide_eq_true (by omega)
   have t2 : decide ((n : Int) > 2147483648) = true := decide_eq_true (by omega)
   have t3 : decide (2147483648 < (n : Int)) = true := decide_eq_true (by omega)
   clear e hlt
   go_enter Tryz.func130, Tryz.ntmps130
   go_wp2_with fail
   go_ret
   exact ⟨rfl, rfl⟩
 · have e : bse n = n := by unfold bse; omega
   rw [e]
   have t1 : decide (2147483648 < n) = false := decide_eq_false (by omega)
   have t2 : decide ((n : Int) > 2147483648) = false := decide_eq_false (by omega)
   have t3 : decide (2147483648 < (n : Int)) = false := decide_eq_false (by omega)
   clear e hge
   go_enter Tryz.func130, Tryz.ntmps130
   go_wp2_with fail
   go_ret
   exact ⟨rfl, rfl⟩
theorem rpart_any (n c : Nat) (w : World) :
 Calls Tryz.prog 115 #[.int .u64 n, .int .u64 c] w fun e w' => Gives w (.int .u64 (part n c : Nat)) e w' := by
 have H1 := fun u => Lib.hid (rbase_any n u)
 rcases Nat.eq_zero_or_pos c with rfl | hcp
 · have e : part n 0 = bse n := by simp [part]
   rw [e]
   generalize bse n = b at *
   go_enter Tryz.func115, Tryz.ntmps115
   go_wp2_with fail
   refine ((H1 _).out).mono ?_
   rintro e w' ⟨rfl, rfl⟩
   go_wp2_with fail
   go_ret
   exact ⟨rfl, Upd.refl _ _⟩
 · have e : part n c = sq (bse n * bse n / c) := by unfold part; rw [if_neg (by omega)]
   rw [e]
   have hb := bse_le n
   generalize bse n = b at *
   have hbb := mul_lt32 (show b < 4294967296 by omega)
   have eB : IntKind.u64.wrap ((b : Int) * (b : Int)) = ((b * b : Nat) : Int) := by rw [mulN]; exact wrapN _ hbb
   have hq : b * b / c ≤ b * b := Nat.div_le_self _ _
   have H2 := fun u => Lib.hid (rsqrt_any (b * b / c) (by omega) u)
   generalize b * b = Q at *
   have eD : (Q : Int) / (c : Int) = ((Q / c : Nat) : Int) := rfl
   have ec : ((c : Int) == 0) = false := by simp; omega
   have hc1 : (1 : Int) ≤ (c : Int) := by omega
   have eW : IntKind.u64.wrap ((Q / c : Nat) : Int) = ((Q / c : Nat) : Int) := wrapN _ (by omega)
   generalize Q / c = D at *
   generalize sq D = S at *
   clear hb hbb hq
   go_enter Tryz.func115, Tryz.ntmps115
   go_wp2_with fail
   refine ((H1 _).out).mono ?_
   rintro e w' ⟨rfl, rfl⟩
   go_wp2_with fail
   refine ((H2 _).out).mono ?_
   rintro e w2 ⟨rfl, u2⟩
   go_wp2_with fail
   go_ret
   exact ⟨rfl, u2⟩
theorem shr_nat (m S : Nat) : (m : Int) / 2 ^ S = ((m / 2 ^ S : Nat) : Int) := by push_cast; rfl
theorem less_wrap (m q : Nat) (hm : m ≤ 18446744073709551615) (hq : q ≤ m) : IntKind.u64.wrap ((m : Int) - (q : Int)) = ((m - q : Nat) : Int) := by
 rw [IntKind.wrap_u64]; omega
theorem follow_any (m x : Nat) (s : Int) (hm : m ≤ 18446744073709551615) (hx : x ≤ 18446744073709551615) (w : World) :
 Calls Tryz.prog 100 #[.int .u64 m, .int .u64 x, .int .i64 s] w fun e w' => e = .returned (.int .u64 (fol m x (slo s) : Nat)) ∧ w = w' := by
 have H1 := fun u => Lib.hid (bound_any s u)
 have hs := slo_le s
 unfold fol
 generalize slo s = S at *
 have e1 := shr_nat m S
 have hq : m / 2 ^ S ≤ m := Nat.div_le_self _ _
 have H2 := fun u => Lib.hid (sat_add (m - m / 2 ^ S) x u (Nat.le_trans (Nat.sub_le _ _) hm) hx)
 have e2 := less_wrap m (m / 2 ^ S) hm hq
 generalize m / 2 ^ S = q at *
 generalize m - q = d at *
 generalize min (d + x) 18446744073709551615 = r at *
 clear hm hx hq
 go_enter Tryz.func100, Tryz.ntmps100
 go_wp2_with fail
 refine ((H1 _).out).mono ?_
 rintro e w' ⟨rfl, rfl⟩
 go_wp2_with fail
 refine ((H2 _).out).mono ?_
 rintro e w' ⟨rfl, rfl⟩
 go_wp2_with fail
 go_ret
 exact ⟨rfl, rfl⟩
theorem mean_any (m : Nat) (s : Int) (w : World) :
 Calls Tryz.prog 101 #[.int .u64 m, .int .i64 s] w fun e w' => e = .returned (.int .u64 (m / 2 ^ slo s : Nat)) ∧ w = w' := by
 have H1 := fun u => Lib.hid (bound_any s u)
 have hs := slo_le s
 generalize slo s = S at *
 have e1 := shr_nat m S
 generalize m / 2 ^ S = q at *
 go_enter Tryz.func101, Tryz.ntmps101
 go_wp2_with fail
 refine ((H1 _).out).mono ?_
 rintro e w' ⟨rfl, rfl⟩
 go_wp2_with fail
 go_ret
 exact ⟨rfl, rfl⟩
theorem rfollow_any (m x : Nat) (s : Int) (hm : m ≤ 18446744073709551615) (hx : x ≤ 18446744073709551615) (w : World) :
 Calls Tryz.prog 85 #[.int .u64 m, .int .u64 x, .int .i64 s] w fun e w' => Gives w (.int .u64 (fol m x (slo s) : Nat)) e w' := by
 have H1 := fun u => Lib.hid (parts_any s u)
 unfold fol
 generalize slo s = S at *
 have hp0 : (1 : Int) ≤ ((2 ^ S : Nat) : Int) := by have := Nat.two_pow_pos S; omega
 have e1 : (m : Int) / ((2 ^ S : Nat) : Int) = ((m / 2 ^ S : Nat) : Int) := rfl
 have hq : m / 2 ^ S ≤ m := Nat.div_le_self _ _
 have hw := wrapN (m / 2 ^ S) (by omega)
 have H2 := fun u => Lib.hid (Sat.ref_add (m - m / 2 ^ S) x (Nat.le_trans (Nat.sub_le _ _) hm) hx u)
 have e2 := less_wrap m (m / 2 ^ S) hm hq
 generalize m / 2 ^ S = q at *
 generalize 2 ^ S = D at *
 generalize m - q = d at *
 generalize min (d + x) 18446744073709551615 = r at *
 have ed : ((D : Int) == 0) = false := by simp; omega
 clear hm hx hq
 go_enter Tryz.func85, Tryz.ntmps85
 go_wp2_with fail
 refine ((H1 _).out).mono ?_
 rintro e w' ⟨rfl, rfl⟩
 go_wp2_with fail
 refine ((H2 _).out).mono ?_
 rintro e w2 ⟨rfl, u2⟩
 go_wp2_with fail
 go_ret
 exact ⟨rfl, u2⟩
theorem rmean_any (m : Nat) (s : Int) (hm : m ≤ 18446744073709551615) (w : World) :
 Calls Tryz.prog 86 #[.int .u64 m, .int .i64 s] w fun e w' => e = .returned (.int .u64 (m / 2 ^ slo s : Nat)) ∧ w = w' := by
 have H1 := fun u => Lib.hid (parts_any s u)
 generalize slo s = S at *
 have hp0 : (1 : Int) ≤ ((2 ^ S : Nat) : Int) := by have := Nat.two_pow_pos S; omega
 have e1 : (m : Int) / ((2 ^ S : Nat) : Int) = ((m / 2 ^ S : Nat) : Int) := rfl
 have hq : m / 2 ^ S ≤ m := Nat.div_le_self _ _
 have hw := wrapN (m / 2 ^ S) (by omega)
 generalize m / 2 ^ S = q at *
 generalize 2 ^ S = D at *
 have ed : ((D : Int) == 0) = false := by simp; omega
 clear hm hq
 go_enter Tryz.func86, Tryz.ntmps86
 go_wp2_with fail
 refine ((H1 _).out).mono ?_
 rintro e w' ⟨rfl, rfl⟩
 go_wp2_with fail
 go_ret
 exact ⟨rfl, rfl⟩
end Go.Proofs.YtdddfmdcjjbegaaGreat.Root

