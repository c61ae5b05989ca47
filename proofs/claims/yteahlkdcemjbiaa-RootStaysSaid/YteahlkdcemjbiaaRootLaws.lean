/- The laws on roots: the examples; RootTells, RootBetween. -/
import Derived.Test.YteahlkdcemjbiaaRoot2
namespace Go.Proofs.Yteahlkdcemjbiaa.Root
open Go.RowKit Go.Proofs BigFrame
open Wide (Gives four dg)
set_option maxHeartbeats 1000000
set_option maxRecDepth 100000
theorem lives (w : World) : Calls Try.prog 23 #[] w fun e w' => e = .returned (.bool true) ∧ Upd Nowhere w w' := by
  have h1 := fun u => sqrt_any 99 (by omega) u
  have h2 := fun u => log_any 8 (by omega) u
  have h3 := fun u => part_any 100 4 (by omega) u
  have h4 := fun u => part_any 100 2 (by omega) u
  have h5 := fun u => follow_any 16 5 2 (by omega) (by omega) u
  have e1 : sq 99 = 9 := by decide +kernel
  have e2 : Lib.bitLen 8 = 4 := by decide +kernel
  have e3 : part 100 4 = 50 := by decide +kernel
  have e4 : part 100 2 = 70 := by decide +kernel
  have e5 : fol 16 5 (slo 2) = 17 := by decide +kernel
  have e6 : 17 / 2 ^ slo 2 = 4 := by decide +kernel
  rw [e1] at h1
  rw [e2] at h2
  rw [e3] at h3
  rw [e4] at h4
  rw [e5] at h5
  have h6 := fun u => mean_any 17 2 u
  rw [e6] at h6
  have H1 := fun u => Lib.hid (h1 u)
  have H2 := fun u => Lib.hid (h2 u)
  have H3 := fun u => Lib.hid (h3 u)
  have H4 := fun u => Lib.hid (h4 u)
  have H5 := fun u => Lib.hid (h5 u)
  have H6 := fun u => Lib.hid (h6 u)
  clear e1 e2 e3 e4 e5 e6 h1 h2 h3 h4 h5 h6
  go_enter Try.func23, Try.ntmps23
  go_wp2_with fail
  refine ((H1 _).out).mono ?_
  rintro e w' ⟨rfl, rfl⟩
  go_wp2_with fail
  refine ((H2 _).out).mono ?_
  rintro e w' ⟨rfl, rfl⟩
  go_wp2_with fail
  refine ((H3 _).out).mono ?_
  rintro e w' ⟨rfl, rfl⟩
  go_wp2_with fail
  refine ((H4 _).out).mono ?_
  rintro e w' ⟨rfl, rfl⟩
  go_wp2_with fail
  refine ((H5 _).out).mono ?_
  rintro e w' ⟨rfl, rfl⟩
  go_wp2_with fail
  refine ((H6 _).out).mono ?_
  rintro e w' ⟨rfl, rfl⟩
  go_wp2_with fail
  go_ret
  exact ⟨rfl, Upd.refl _ _⟩
theorem tells_law (n m : Nat) (s : Int) (hn : n ≤ 18446744073709551615) (hm : m ≤ 18446744073709551615) (w : World) :
    Calls Try.prog 3 #[.int .u64 n, .int .u64 m, .int .i64 s] w fun e w' => e = .returned (.bool true) ∧ Upd Nowhere w w' := by
  have H1 := fun u => Lib.hid (sqrt_any n hn u)
  have H2 := fun u => Lib.hid (rsqrt_any n hn u)
  have H3 := fun u => Lib.hid (log_any n hn u)
  have H4 := fun u => Lib.hid (rlog_any n hn u)
  have H5 := fun u => Lib.hid (part_any n m hm u)
  have H6 := fun u => Lib.hid (rpart_any n m u)
  have H7 := fun u => Lib.hid (part_any m n hn u)
  have H8 := fun u => Lib.hid (rpart_any m n u)
  have H9 := fun u => Lib.hid (follow_any n m s hn hm u)
  have H10 := fun u => Lib.hid (rfollow_any n m s hn hm u)
  have H11 := fun u => Lib.hid (mean_any n s u)
  have H12 := fun u => Lib.hid (rmean_any n s hn u)
  have H13 := fun u => Lib.hid (lives u)
  generalize sq n = z1 at *
  generalize (Lib.bitLen n : Int) - 1 = z2 at *
  generalize part n m = z3 at *
  generalize part m n = z4 at *
  generalize fol n m (slo s) = z5 at *
  generalize n / 2 ^ slo s = z6 at *
  clear hn hm
  go_enter Try.func3, Try.ntmps3
  go_wp2_with fail
  refine ((H1 _).out).mono ?_
  rintro e w' ⟨rfl, rfl⟩
  go_wp2_with fail
  refine ((H2 _).out).mono ?_
  rintro e w2 ⟨rfl, u2⟩
  go_wp2_with fail
  refine ((H3 _).out).mono ?_
  rintro e w' ⟨rfl, rfl⟩
  go_wp2_with fail
  refine ((H4 _).out).mono ?_
  rintro e w' ⟨rfl, rfl⟩
  go_wp2_with fail
  refine ((H5 _).out).mono ?_
  rintro e w' ⟨rfl, rfl⟩
  go_wp2_with fail
  refine ((H6 _).out).mono ?_
  rintro e w6 ⟨rfl, u6⟩
  go_wp2_with fail
  refine ((H7 _).out).mono ?_
  rintro e w' ⟨rfl, rfl⟩
  go_wp2_with fail
  refine ((H8 _).out).mono ?_
  rintro e w8 ⟨rfl, u8⟩
  go_wp2_with fail
  refine ((H9 _).out).mono ?_
  rintro e w' ⟨rfl, rfl⟩
  go_wp2_with fail
  refine ((H10 _).out).mono ?_
  rintro e w10 ⟨rfl, u10⟩
  go_wp2_with fail
  refine ((H11 _).out).mono ?_
  rintro e w' ⟨rfl, rfl⟩
  go_wp2_with fail
  refine ((H12 _).out).mono ?_
  rintro e w' ⟨rfl, rfl⟩
  go_wp2_with fail
  refine ((H13 _).out).mono ?_
  rintro e w13 ⟨rfl, u13⟩
  go_wp2_with fail
  go_ret
  exact ⟨rfl, ((((u2.trans u6 (fun _ _ h => h)).trans u8 (fun _ _ h => h)).trans u10 (fun _ _ h => h))).trans u13 (fun _ _ h => h)⟩
theorem between_law (n : Nat) (hn : n ≤ 18446744073709551615) (w : World) :
    Calls Try.prog 4 #[.int .u64 n] w fun e w' => e = .returned (.bool true) ∧ Upd Nowhere w w' := by
  obtain ⟨s1, s2⟩ := sq_spec n hn
  have s3 := sq_lt n
  have H1 := fun u => Lib.hid (sqrt_any n hn u)
  have H2 := fun u => Lib.hid (Wide.of_any n hn u)
  have h3 := fun u => Wide.times_any (sq n) (sq n) (by omega) (by omega) u
  have h4 := fun u => Wide.times_any (sq n + 1) (sq n + 1) (by omega) (by omega) u
  have p1 : sq n * sq n < 340282366920938463463374607431768211456 := by have := mul_lt32 s3; omega
  have p2 : (sq n + 1) * (sq n + 1) < 340282366920938463463374607431768211456 := by
    have := Nat.mul_le_mul (show sq n + 1 ≤ 4294967296 by omega) (show sq n + 1 ≤ 4294967296 by omega)
    omega
  have h5 := fun u => Sat.less_num n (sq n * sq n) (by omega) p1 u
  have h6 := fun u => Sat.less_num n ((sq n + 1) * (sq n + 1)) (by omega) p2 u
  rw [decide_eq_false (by omega)] at h5
  rw [decide_eq_true s2] at h6
  have H3 := fun u => Lib.hid (h3 u)
  have H4 := fun u => Lib.hid (h4 u)
  have H5 := fun u => Lib.hid (h5 u)
  have H6 := fun u => Lib.hid (h6 u)
  have H7 := fun u => Lib.hid (log_any n hn u)
  have H8 := fun u => Lib.hid (lives u)
  generalize four (dg n) = A at *
  generalize four (dg (sq n * sq n)) = B at *
  generalize four (dg ((sq n + 1) * (sq n + 1))) = C at *
  have e1 : (((sq n + 1 : Nat)) : Int) = (sq n : Int) + 1 := by push_cast; rfl
  rw [e1] at H4
  have t1 : decide ((sq n : Int) > 4294967295) = false := decide_eq_false (by omega)
  have t2 : IntKind.u64.wrap ((sq n : Int) + 1) = (sq n : Int) + 1 := by rw [IntKind.wrap_u64]; omega
  generalize sq n = k at *
  clear h3 h4 h5 h6 s1 s2 s3 p1 p2 e1
  rcases Nat.eq_zero_or_pos n with rfl | hpos
  · have e0 : (Lib.bitLen 0 : Int) - 1 = -1 := by decide +kernel
    rw [e0] at H7
    clear e0 hn
    go_enter Try.func4, Try.ntmps4
    go_wp2_with fail
    refine ((H1 _).out).mono ?_
    rintro e w' ⟨rfl, rfl⟩
    go_wp2_with fail
    refine ((H2 _).out).mono ?_
    rintro e w2 ⟨rfl, u2⟩
    go_wp2_with fail
    refine ((H3 _).out).mono ?_
    rintro e w3 ⟨rfl, u3⟩
    go_wp2_with fail
    refine ((H5 _).out).mono ?_
    rintro e w5 ⟨rfl, u5⟩
    go_wp2_with fail
    refine ((H2 _).out).mono ?_
    rintro e w2' ⟨rfl, u2'⟩
    go_wp2_with fail
    refine ((H4 _).out).mono ?_
    rintro e w4 ⟨rfl, u4⟩
    go_wp2_with fail
    refine ((H6 _).out).mono ?_
    rintro e w6 ⟨rfl, u6⟩
    go_wp2_with fail
    refine ((H7 _).out).mono ?_
    rintro e w' ⟨rfl, rfl⟩
    go_wp2_with fail
    refine ((H8 _).out).mono ?_
    rintro e w8 ⟨rfl, u8⟩
    go_wp2_with fail
    go_ret
    exact ⟨rfl, ((((((u2.trans u3 (fun _ _ h => h)).trans u5 (fun _ _ h => h)).trans u2' (fun _ _ h => h)).trans u4 (fun _ _ h => h)).trans u6 (fun _ _ h => h))).trans u8 (fun _ _ h => h)⟩
  · obtain ⟨b1, b2⟩ := Bits.bitLen_spec n n (Nat.le_refl _) (by omega)
    obtain ⟨b3, b4⟩ := b2 (by omega)
    have b5 := Bits.bitLen_le n (by omega)
    obtain ⟨l, hl⟩ : ∃ l, Lib.bitLen n = l + 1 := ⟨Lib.bitLen n - 1, by omega⟩
    rw [hl] at b1 b4 b5 H7
    have e0 : (((l + 1 : Nat)) : Int) - 1 = (l : Int) := by omega
    rw [e0] at H7
    rw [Nat.add_sub_cancel] at b4
    have e2 : (n : Int) / 2 ^ l = 1 := by
      rw [shr_nat]
      have : n / 2 ^ l = 1 := Nat.div_eq_of_lt_le (by omega) (by rw [Nat.pow_succ] at b1; omega)
      rw [this]; rfl
    have l63 : l ≤ 63 := by omega
    have ez : ((n : Int) == 0) = false := by simp; omega
    clear b1 b2 b3 b4 b5 hl e0 hpos hn
    go_enter Try.func4, Try.ntmps4
    go_wp2_with fail
    refine ((H1 _).out).mono ?_
    rintro e w' ⟨rfl, rfl⟩
    go_wp2_with fail
    refine ((H2 _).out).mono ?_
    rintro e w2 ⟨rfl, u2⟩
    go_wp2_with fail
    refine ((H3 _).out).mono ?_
    rintro e w3 ⟨rfl, u3⟩
    go_wp2_with fail
    refine ((H5 _).out).mono ?_
    rintro e w5 ⟨rfl, u5⟩
    go_wp2_with fail
    refine ((H2 _).out).mono ?_
    rintro e w2' ⟨rfl, u2'⟩
    go_wp2_with fail
    refine ((H4 _).out).mono ?_
    rintro e w4 ⟨rfl, u4⟩
    go_wp2_with fail
    refine ((H6 _).out).mono ?_
    rintro e w6 ⟨rfl, u6⟩
    go_wp2_with fail
    refine ((H7 _).out).mono ?_
    rintro e w' ⟨rfl, rfl⟩
    go_wp2_with fail
    refine ((H8 _).out).mono ?_
    rintro e w8 ⟨rfl, u8⟩
    go_wp2_with fail
    go_ret
    exact ⟨rfl, ((((((u2.trans u3 (fun _ _ h => h)).trans u5 (fun _ _ h => h)).trans u2' (fun _ _ h => h)).trans u4 (fun _ _ h => h)).trans u6 (fun _ _ h => h))).trans u8 (fun _ _ h => h)⟩
end Go.Proofs.Yteahlkdcemjbiaa.Root
