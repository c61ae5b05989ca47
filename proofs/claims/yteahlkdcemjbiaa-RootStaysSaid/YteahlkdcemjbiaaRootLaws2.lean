/- RootRises, RootStays. -/
import Derived.Test.YteahlkdcemjbiaaRootLaws
namespace Go.Proofs.Yteahlkdcemjbiaa.Root
open Go.RowKit Go.Proofs BigFrame
open Wide (Gives four dg)
open Bits (wrapN)
set_option maxHeartbeats 1000000
set_option maxRecDepth 100000
theorem rises_law (a b c d : Nat) (ha : a ≤ 18446744073709551615) (hb : b ≤ 18446744073709551615) (hc : c ≤ 18446744073709551615) (hd : d ≤ 18446744073709551615) (w : World) :
    Calls Try.prog 5 #[.agg #[.int .u64 a, .int .u64 b, .int .u64 c, .int .u64 d]] w fun e w' => e = .returned (.bool true) ∧ Upd Nowhere w w' := by
  have HL := fun u => Lib.hid (lives u)
  obtain ⟨lo, hlo⟩ : ∃ lo, min a b = lo := ⟨_, rfl⟩
  obtain ⟨hi, hhi⟩ : ∃ hi, max a b = hi := ⟨_, rfl⟩
  have f1 : (if b < a then (b : Int) else (a : Int)) = (lo : Int) := by rw [← hlo]; split <;> omega
  have f2 : (if a < b then (b : Int) else (a : Int)) = (hi : Int) := by rw [← hhi]; split <;> omega
  obtain ⟨few, hfew⟩ : ∃ few, min c d = few := ⟨_, rfl⟩
  obtain ⟨many, hmany⟩ : ∃ many, max c d = many := ⟨_, rfl⟩
  have f3 : (if d < c then (d : Int) else (c : Int)) = (few : Int) := by rw [← hfew]; split <;> omega
  have f4 : (if c < d then (d : Int) else (c : Int)) = (many : Int) := by rw [← hmany]; split <;> omega
  obtain ⟨few', hf'⟩ : ∃ n, (if few = 0 then 1 else few) = n := ⟨_, rfl⟩
  obtain ⟨many', hm'⟩ : ∃ n, (if few = 0 then max many 1 else many) = n := ⟨_, rfl⟩
  have hle : lo ≤ hi := by omega
  have hfm : few' ≤ many' := by rw [← hf', ← hm']; split <;> omega
  have hf0 : 0 < few' := by rw [← hf']; split <;> omega
  have bhi : hi ≤ 18446744073709551615 := by omega
  have blo : lo ≤ 18446744073709551615 := by omega
  have bfe : few' ≤ 18446744073709551615 := by rw [← hf']; split <;> omega
  have bma : many' ≤ 18446744073709551615 := by rw [← hm']; split <;> omega
  have H1 := fun u => Lib.hid (sqrt_any lo blo u)
  have H2 := fun u => Lib.hid (sqrt_any hi bhi u)
  have H3 := fun u => Lib.hid (part_any lo few' bfe u)
  have H4 := fun u => Lib.hid (part_any hi few' bfe u)
  have H5 := fun u => Lib.hid (part_any lo many' bma u)
  have t1 := sq_mono hle bhi
  have t2 := part_mono hle (Nat.le_refl few') hf0
  have t3 := part_mono (Nat.le_refl lo) hfm hf0
  have t4 := part_le hi few'
  have f5 := base_if hi
  generalize sq lo = z1 at *
  generalize sq hi = z2 at *
  generalize part lo few' = z3 at *
  generalize part hi few' = z4 at *
  generalize part lo many' = z5 at *
  generalize bse hi = z6 at *
  clear hle hfm hf0 bhi blo bfe bma ha hb hc hd hlo hhi hfew hmany
  rcases Nat.eq_zero_or_pos few with h0 | hpos
  · rw [if_pos h0] at hf' hm'
    subst hf' h0
    have f6 : (if (many : Int) < 1 then (1 : Int) else (many : Int)) = (many' : Int) := by rw [← hm']; split <;> omega
    have f7 : (if many = 0 then (1 : Int) else (many : Int)) = (many' : Int) := by rw [← hm']; split <;> omega
    clear hm'
    go_enter Try.func5, Try.ntmps5
    go_wp2_with fail
    go_quiet (fail)
    go_wp2_with fail
    refine ((H1 _).out).mono ?_
    rintro e w' ⟨rfl, rfl⟩
    go_wp2_with fail
    refine ((H2 _).out).mono ?_
    rintro e w' ⟨rfl, rfl⟩
    go_wp2_with fail
    refine ((H3 _).out).mono ?_
    rintro e w' ⟨rfl, rfl⟩
    go_wp2_with fail
    refine ((H4 _).out).mono ?_
    rintro e w' ⟨rfl, rfl⟩
    go_wp2_with fail
    refine ((H5 _).out).mono ?_
    rintro e w' ⟨rfl, rfl⟩
    go_wp2_with fail
    refine ((H3 _).out).mono ?_
    rintro e w' ⟨rfl, rfl⟩
    go_wp2_with fail
    refine ((H4 _).out).mono ?_
    rintro e w' ⟨rfl, rfl⟩
    go_wp2_with fail
    refine ((HL _).out).mono ?_
    rintro e w9 ⟨rfl, u9⟩
    go_wp2_with fail
    go_ret
    exact ⟨rfl, (((Upd.refl _ _).alloc _).drewN _).trans u9 (fun _ _ h => h)⟩
  · rw [if_neg (by omega)] at hf' hm'
    subst hf' hm'
    have f6 : ((few : Int) == 0) = false := by simp; omega
    go_enter Try.func5, Try.ntmps5
    go_wp2_with fail
    go_quiet (fail)
    go_wp2_with fail
    refine ((H1 _).out).mono ?_
    rintro e w' ⟨rfl, rfl⟩
    go_wp2_with fail
    refine ((H2 _).out).mono ?_
    rintro e w' ⟨rfl, rfl⟩
    go_wp2_with fail
    refine ((H3 _).out).mono ?_
    rintro e w' ⟨rfl, rfl⟩
    go_wp2_with fail
    refine ((H4 _).out).mono ?_
    rintro e w' ⟨rfl, rfl⟩
    go_wp2_with fail
    refine ((H5 _).out).mono ?_
    rintro e w' ⟨rfl, rfl⟩
    go_wp2_with fail
    refine ((H3 _).out).mono ?_
    rintro e w' ⟨rfl, rfl⟩
    go_wp2_with fail
    refine ((H4 _).out).mono ?_
    rintro e w' ⟨rfl, rfl⟩
    go_wp2_with fail
    refine ((HL _).out).mono ?_
    rintro e w9 ⟨rfl, u9⟩
    go_wp2_with fail
    go_ret
    exact ⟨rfl, (((Upd.refl _ _).alloc _).drewN _).trans u9 (fun _ _ h => h)⟩
theorem slo_nat (s : Nat) (h : s ≤ 16) : slo (s : Int) = s := by unfold slo; omega
theorem low_le {m x s : Nat} (hs : s ≤ 5) (hx : x ≤ 4294967295) (hm : m < (x + 1) * 2 ^ s) : m ≤ 18446744073709551615 := by
  have hD2 : 2 ^ s ≤ 32 := Nat.pow_le_pow_right (by omega) hs (n := 2)
  have := Nat.mul_le_mul (show x + 1 ≤ 4294967296 by omega) hD2
  omega
theorem stays_law (x sl st : Nat) (hx : x ≤ 4294967295) (hsl : sl ≤ 255) (hst : st ≤ 65535) (w : World) :
    Calls Try.prog 6 #[.int .u32 x, .int .u8 sl, .int .u16 st] w fun e w' => e = .returned (.bool true) ∧ Upd Nowhere w w' := by
  have HL := fun u => Lib.hid (lives u)
  obtain ⟨s, hs⟩ : ∃ s, sl % 6 = s := ⟨_, rfl⟩
  have hs5 : s ≤ 5 := by omega
  have f1 : (sl : Int) % 6 = (s : Int) := by omega
  obtain ⟨K, hK⟩ : ∃ K, st % 1000 = K := ⟨_, rfl⟩
  have f2 : (st : Int) % 1000 = (K : Int) := by omega
  have hK1 : K ≤ 1000 := by omega
  clear hs hK
  go_enter Try.func6, Try.ntmps6
  go_wp2_with fail
  rw [f1, f2]
  clear f1 f2
  go_loopw [8, 9, 17] (fun mv lv i wr => ∃ m k : Nat, k ≤ K ∧ i = .int .i64 k ∧ mv = .int .u64 m ∧ lv = .int .u64 (m / 2 ^ s : Nat) ∧ m < (x + 1) * 2 ^ s ∧ Upd Nowhere w wr) (fun _ _ i _ => K - (intOf i).toNat)
  case atStart => exact ⟨0, 0, by omega, rfl, rfl, by rw [Nat.zero_div]; rfl, Nat.mul_pos (by omega) (Nat.two_pow_pos s), Upd.refl _ _⟩
  case round =>
    obtain ⟨m, k, hk, rfl, rfl, rfl, hm, hu⟩ := hrel
    have hmb := low_le hs5 hx hm
    by_cases hlt : k < K
    · obtain ⟨g1, g2, _, g4⟩ := fol_low hs5 hx hm
      have hgb := low_le hs5 hx g1
      have h1 := fun u => follow_any m x s hmb (by omega) u
      have h2 := fun u => mean_any (fol m x s) s u
      rw [slo_nat s (by omega)] at h1 h2
      have t1 : fol m x s / 2 ^ s ≤ x := by
        have := (Nat.div_lt_iff_lt_mul (Nat.two_pow_pos s)).2 g1
        omega
      have t2 : m / 2 ^ s ≤ fol m x s / 2 ^ s := Nat.div_le_div_right g2
      have H1 := fun u => Lib.hid (h1 u)
      have H2 := fun u => Lib.hid (h2 u)
      have G1 := Lib.hid g1
      obtain ⟨f, hf⟩ : ∃ f, fol m x s = f := ⟨_, rfl⟩
      rw [hf] at H1 H2 G1 t1 t2
      obtain ⟨q, hq⟩ : ∃ q, f / 2 ^ s = q := ⟨_, rfl⟩
      have HQ := Lib.hid hq
      rw [hq] at H2 t1 t2
      generalize m / 2 ^ s = p at *
      clear h1 h2 g1 g2 g4 hm hmb hgb hf hq
      go_wp2_with fail
      refine ((H1 _).out).mono ?_
      rintro e w' ⟨rfl, rfl⟩
      go_wp2_with fail
      refine ((H2 _).out).mono ?_
      rintro e w' ⟨rfl, rfl⟩
      go_wp2_with fail
      go_roundw
      case rel => exact ⟨f, k + 1, by omega, by go_num, rfl, by rw [HQ.out], G1.out, hu⟩
      case measure => simp [intOf]; omega
    · obtain rfl : k = K := by omega
      have HM := Lib.hid hm
      have HS := Lib.hid (settled hs5 hx hm)
      clear hm
      generalize m / 2 ^ s = p at *
      go_wp2_with fail
      go_loopw [8, 38] (fun mv i wr => ∃ k : Nat, k ≤ 2400 ∧ i = .int .i64 k ∧ mv = .int .u64 (steps x s k m : Nat) ∧ Upd Nowhere w wr) (fun _ i _ => 2400 - (intOf i).toNat)
      case atStart => exact ⟨0, by omega, rfl, rfl, hu⟩
      case round =>
        obtain ⟨j, hj, rfl, rfl, hu2⟩ := hrel
        have hjb := low_le hs5 hx (steps_low hs5 hx j m HM.out).1
        by_cases hlt2 : j < 2400
        · have h1 := fun u => follow_any (steps x s j m) x s hjb (by omega) u
          rw [slo_nat s (by omega), ← steps_succ] at h1
          have H1 := fun u => Lib.hid (h1 u)
          generalize steps x s j m = v at *
          obtain ⟨v', hv'⟩ : ∃ v', steps x s (j + 1) m = v' := ⟨_, rfl⟩
          rw [hv'] at H1
          have HV := Lib.hid hv'
          clear h1 hv' HS HM
          go_wp2_with fail
          refine ((H1 _).out).mono ?_
          rintro e w' ⟨rfl, rfl⟩
          go_wp2_with fail
          go_roundw
          case rel => exact ⟨j + 1, by omega, by go_num, by rw [HV.out], hu2⟩
          case measure => simp [intOf]; omega
        · obtain rfl : j = 2400 := by omega
          obtain ⟨q1, q2⟩ := HS.out
          have h1 := fun u => mean_any (steps x s 2400 m) s u
          have h2 := fun u => follow_any (steps x s 2400 m) x s hjb (by omega) u
          rw [slo_nat s (by omega)] at h2
          have h3 := fun u => mean_any (fol (steps x s 2400 m) x s) s u
          rw [slo_nat s (by omega)] at h1 h3
          rw [q1] at h1
          rw [q2] at h3
          have H1 := fun u => Lib.hid (h1 u)
          have H2 := fun u => Lib.hid (h2 u)
          have H3 := fun u => Lib.hid (h3 u)
          generalize fol (steps x s 2400 m) x s = f at *
          generalize steps x s 2400 m = v at *
          clear h1 h2 h3 q1 q2 HS HM
          go_wp2_with fail
          refine ((H1 _).out).mono ?_
          rintro e w' ⟨rfl, rfl⟩
          go_wp2_with fail
          refine ((H2 _).out).mono ?_
          rintro e w' ⟨rfl, rfl⟩
          go_wp2_with fail
          refine ((H3 _).out).mono ?_
          rintro e w' ⟨rfl, rfl⟩
          go_wp2_with fail
          refine ((HL _).out).mono ?_
          rintro e w9 ⟨rfl, u9⟩
          go_wp2_with fail
          go_ret
          exact ⟨rfl, hu2.trans u9 (fun _ _ h => h)⟩
end Go.Proofs.Yteahlkdcemjbiaa.Root
