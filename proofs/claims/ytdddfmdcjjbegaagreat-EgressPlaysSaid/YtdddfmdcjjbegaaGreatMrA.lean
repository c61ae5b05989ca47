/- Ref23, Ref22P, Ref22, Ref09, Ref10, one behind the other. -/
import Derived.Test.YtdddfmdcjjbegaaGreatMeCred
import Derived.Test.YtdddfmdcjjbegaaGreatMeConf
import Derived.Test.YtdddfmdcjjbegaaGreatMePlan
import Derived.Deep.LoopGhost
import Derived.Deep.DeepCutAuto
import Derived.Test.YtdddfmdcjjbegaaGreatProg
import Derived.Test.YtdddfmdcjjbegaaGreatMeB
import Derived.Test.YtdddfmdcjjbegaaGreatMeA
import Derived.Lib.Hide
import Derived.Laws.MakeOwn
import Derived.BigQuiet
import Derived.Deep.RegionHeld3
import Derived.Test.YtdddfmdcjjbegaaGreatMeTk
namespace Go.Proofs.YtdddfmdcjjbegaaGreat.Ref23
open Go.RowKit Go.Proofs BigFrame
open Credit (okc ern tck)
open Egs (m_box alloc_size mk_off mk_set)
set_option maxHeartbeats 4000000
set_option maxRecDepth 1000000
set_option linter.unusedSimpArgs false
abbrev TR : TypeId := 140
abbrev RC (i s h v : Int) : Array Value := #[.int .i64 i, .int .i64 s, .int .i64 h, .int .i64 v]
theorem fits_any (n : Int) (w : World) : Calls Tryz.prog 111 #[.int .i64 n] w fun e w' => e = .returned (.bool (decide (1 ≤ n) && decide (n ≤ 1048576))) ∧ w = w' := by
 by_cases h1 : 1 ≤ n
 · have d1 : decide (n ≥ 1) = true := decide_eq_true h1
   have d2 : decide (1 ≤ n) = true := decide_eq_true h1
   obtain ⟨b, hb⟩ : ∃ b, decide (n ≤ 1048576) = b := ⟨_, rfl⟩
   rw [d2, hb]
   clear h1
   go_enter Tryz.func111, Tryz.ntmps111
   go_wp2_with fail
   go_ret
   exact ⟨rfl, rfl⟩
 · have d1 : decide (n ≥ 1) = false := decide_eq_false h1
   have d2 : decide (1 ≤ n) = false := decide_eq_false h1
   rw [d2]
   clear h1
   go_enter Tryz.func111, Tryz.ntmps111
   go_wp2_with fail
   go_ret
   exact ⟨rfl, rfl⟩
/-- Whether one may be. -/
def mayR (i s h v : Int) : Bool := (decide (1 ≤ i) && decide (i ≤ 1048576)) && ((decide (1 ≤ s) && decide (s ≤ 1048576)) && ((decide (1 ≤ h) && decide (h ≤ 1048576)) && (decide (-1099511627776 ≤ v) && decide (v ≤ h))))
theorem mayR_iff {i s h v : Int} : mayR i s h v = true ↔ okc i s h v := by
 unfold mayR okc
 simp only [Bool.and_eq_true, decide_eq_true_eq]
theorem may_any (i s h v : Int) (w : World) : Calls Tryz.prog 83 #[.agg (RC i s h v)] w fun e w' => e = .returned (.bool (mayR i s h v)) ∧ Upd Nowhere w w' := by
 have hU : Upd Nowhere w (w.alloc (.cells (RC i s h v) TR)) := (Upd.refl _ _).alloc _
 have hB : Blk (w.alloc (.cells (RC i s h v) TR)) w.heap.size (RC i s h v) TR := Blk.new _ _ _
 obtain ⟨k0, k1, k2, k3, -⟩ := cells4 hB
 have HF := fun n u => Lib.hid (fits_any n u)
 clear hB
 unfold mayR
 obtain ⟨b1, hb1⟩ : ∃ b, (decide (1 ≤ i) && decide (i ≤ 1048576)) = b := ⟨_, rfl⟩
 obtain ⟨b2, hb2⟩ : ∃ b, (decide (1 ≤ s) && decide (s ≤ 1048576)) = b := ⟨_, rfl⟩
 obtain ⟨b3, hb3⟩ : ∃ b, (decide (1 ≤ h) && decide (h ≤ 1048576)) = b := ⟨_, rfl⟩
 have H1 := HF i
 have H2 := HF s
 have H3 := HF h
 rw [hb1] at H1 ⊢
 rw [hb2] at H2 ⊢
 rw [hb3] at H3 ⊢
 clear hb1 hb2 hb3 HF
 cases b1 with
 | false =>
   go_enter Tryz.func83, Tryz.ntmps83
   go_wp2_with fail
   refine ((H1 _).out).mono ?_
   rintro e w' ⟨rfl, rfl⟩
   go_wp2_with fail
   go_ret
   exact ⟨rfl, hU⟩
 | true =>
   cases b2 with
   | false =>
     go_enter Tryz.func83, Tryz.ntmps83
     go_wp2_with fail
     refine ((H1 _).out).mono ?_
     rintro e w' ⟨rfl, rfl⟩
     go_wp2_with fail
     refine ((H2 _).out).mono ?_
     rintro e w' ⟨rfl, rfl⟩
     go_wp2_with fail
     go_ret
     exact ⟨rfl, hU⟩
   | true =>
     cases b3 with
     | false =>
       go_enter Tryz.func83, Tryz.ntmps83
       go_wp2_with fail
       refine ((H1 _).out).mono ?_
       rintro e w' ⟨rfl, rfl⟩
       go_wp2_with fail
       refine ((H2 _).out).mono ?_
       rintro e w' ⟨rfl, rfl⟩
       go_wp2_with fail
       refine ((H3 _).out).mono ?_
       rintro e w' ⟨rfl, rfl⟩
       go_wp2_with fail
       go_ret
       exact ⟨rfl, hU⟩
     | true =>
       by_cases h4 : -1099511627776 ≤ v
       · have d1 : decide (v ≥ -1099511627776) = true := decide_eq_true h4
         have d2 : decide (-1099511627776 ≤ v) = true := decide_eq_true h4
         obtain ⟨b4, hb4⟩ : ∃ b, decide (v ≤ h) = b := ⟨_, rfl⟩
         rw [d2, hb4]
         clear h4
         go_enter Tryz.func83, Tryz.ntmps83
         go_wp2_with fail
         refine ((H1 _).out).mono ?_
         rintro e w' ⟨rfl, rfl⟩
         go_wp2_with fail
         refine ((H2 _).out).mono ?_
         rintro e w' ⟨rfl, rfl⟩
         go_wp2_with fail
         refine ((H3 _).out).mono ?_
         rintro e w' ⟨rfl, rfl⟩
         go_wp2_with fail
         go_ret
         exact ⟨rfl, hU⟩
       · have d1 : decide (v ≥ -1099511627776) = false := decide_eq_false h4
         have d2 : decide (-1099511627776 ≤ v) = false := decide_eq_false h4
         rw [d2]
         clear h4
         go_enter Tryz.func83, Tryz.ntmps83
         go_wp2_with fail
         refine ((H1 _).out).mono ?_
         rintro e w' ⟨rfl, rfl⟩
         go_wp2_with fail
         refine ((H2 _).out).mono ?_
         rintro e w' ⟨rfl, rfl⟩
         go_wp2_with fail
         refine ((H3 _).out).mono ?_
         rintro e w' ⟨rfl, rfl⟩
         go_wp2_with fail
         go_ret
         exact ⟨rfl, hU⟩
theorem ern_ref {i s h v bd : Int} {t : Nat} (H : okc i s h v) (hb : v ≤ bd) (hbh : bd ≤ 1048576) : (if bd < v + i * (min t 4398046511104 : Nat) then bd else v + i * (min t 4398046511104 : Nat)) = ern i v bd t := by
 obtain ⟨⟨a1, a2⟩, ⟨a3, a4⟩, ⟨a5, a6⟩, a7, a8⟩ := H
 unfold ern
 by_cases hq : (bd - v + i - 1).tdiv i ≤ (t : Int)
 · rw [if_pos hq]
   have hge : bd ≤ v + i * (min t 4398046511104 : Nat) := by
    rcases Nat.lt_or_ge t 4398046511104 with h1 | h1
    · rw [Nat.min_eq_left (by omega)]
      have e : (bd - v + i - 1).tdiv i = (bd - v + i - 1) / i := Int.tdiv_eq_ediv_of_nonneg (by omega)
      rw [e] at hq
      have h2 : (bd - v + i - 1) < i * ((bd - v + i - 1) / i + 1) := by
       have := Int.emod_add_mul_ediv (bd - v + i - 1) i
       have h4 := Int.emod_lt_of_pos (bd - v + i - 1) (show 0 < i by omega)
       rw [Int.mul_add, Int.mul_one]
       omega
      have h3 : i * ((bd - v + i - 1) / i + 1) ≤ i * ((t : Int) + 1) := Int.mul_le_mul_of_nonneg_left (by omega) (by omega)
      rw [Int.mul_add, Int.mul_one, Int.mul_add, Int.mul_one] at h3
      rw [Int.mul_add, Int.mul_one] at h2
      omega
    · rw [Nat.min_eq_right h1]
      have h3 : 1 * (4398046511104 : Int) ≤ i * ((4398046511104 : Nat) : Int) := Int.mul_le_mul_of_nonneg_right a1 (by omega)
      omega
   by_cases h9 : bd < v + i * (min t 4398046511104 : Nat)
   · rw [if_pos h9]
   · rw [if_neg h9]; omega
 · rw [if_neg hq]
   obtain ⟨h1, h2⟩ := Credit.ern_mid a1 hq hb
   have ht : t ≤ 4398046511104 := by
    rcases Nat.lt_or_ge 4398046511104 t with h9 | h9
    · exfalso
      have h3 : 1 * (t : Int) ≤ i * (t : Int) := Int.mul_le_mul_of_nonneg_right a1 (by omega)
      omega
    · exact h9
   rw [Nat.min_eq_left ht, if_neg (by omega)]
theorem may_ok {i s h v : Int} (w : World) (H : okc i s h v) : Calls Tryz.prog 83 #[.agg (RC i s h v)] w fun e w' => e = .returned (.bool true) ∧ Upd Nowhere w w' := by
 have := may_any i s h v w
 rw [mayR_iff.2 H] at this
 exact this
theorem sent_any {i s h v : Int} {n : Nat} (w : World) (H : okc i s h v) (hv : 0 ≤ v) (hn : n ≤ 65535) :
 Calls Tryz.prog 61 #[.agg (RC i s h v), .int .u64 n] w fun e w' => e = .returned (.tuple #[.agg (RC i s h (v - s * n)), .bool true]) ∧ Upd Nowhere w w' := by
 have HM := fun u => Lib.hid (may_ok u H)
 have hM := m_box (m_box (Made.start w) (RC i s h v) TR) (RC 0 0 0 0) TR
 rw [alloc_size] at hM
 have HMM := Lib.hid hM
 have hsv := Credit.sent_ok H hv hn
 obtain ⟨p, hp⟩ : ∃ p : Int, s * (n : Int) = p := ⟨_, rfl⟩
 have hpl : 0 ≤ p := by rw [← hp]; exact Int.mul_nonneg (by have := H.2.1; omega) (by omega)
 have hpu : p ≤ 1048576 * 65535 := by rw [← hp]; exact Int.le_trans (Int.mul_le_mul_of_nonneg_right H.2.1.2 (by omega)) (Int.mul_le_mul_of_nonneg_left (by omega) (by omega))
 have hvb : v ≤ 1048576 := by have := H.2.2.1; have := H.2.2.2; omega
 have e0 : IntKind.i64.wrap (n : Int) = (n : Int) := by rw [IntKind.wrap_i64]; omega
 have e1 : IntKind.i64.wrap (s * (n : Int)) = p := by rw [hp, IntKind.wrap_i64]; omega
 rw [hp]
 obtain ⟨z, hz⟩ : ∃ z : Int, v - p = z := ⟨_, rfl⟩
 have e2 : IntKind.i64.wrap (v - p) = z := by rw [hz, IntKind.wrap_i64]; omega
 rw [hz]
 have d1 : decide (v < 0) = false := decide_eq_false (by omega)
 have d2 : decide (65535 < n) = false := decide_eq_false (by omega)
 have d3 : decide ((n : Int) > 65535) = false := decide_eq_false (by omega)
 have d4 : decide ((65535 : Int) < (n : Int)) = false := decide_eq_false (by omega)
 clear hM hsv hpl hpu hvb hp hz H hv hn
 go_enter Tryz.func61, Tryz.ntmps61
 go_upto_region 1 with fail
 generalize (w.alloc (.cells (RC i s h v) TR)).alloc (.cells (RC 0 0 0 0) TR) = w1 at *
 obtain ⟨BR, hBR⟩ : ∃ x, w.heap.size + 1 = x := ⟨_, rfl⟩
 try simp only [hBR]
 rw [hBR] at HMM
 clear hBR
 obtain ⟨BX, hBX⟩ : ∃ x, w.heap.size = x := ⟨_, rfl⟩
 try simp only [hBX]
 rw [hBX] at HMM
 clear hBX
 obtain ⟨k0, k1, k2, k3, -⟩ := cells4 (mk_off (l1 := [_]) HMM.out).1
 go_wp2_with fail
 refine ((HM _).out).mono ?_
 rintro e w2 ⟨rfl, u2⟩
 have H2 := Lib.hid (HMM.out.old u2)
 clear HMM u2 HM k0 k1 k2 k3
 obtain ⟨k0, k1, k2, k3, z0, z1, z2, z3⟩ := cells4 (mk_off (l1 := [_]) H2.out).1
 go_upto_region 6 with fail
 have H3 := Lib.hid (mk_set (l1 := [_]) H2.out 3 (.int .i64 z))
 clear H2 k0 k1 k2 k3 z0 z1 z2 z3
 generalize w2.setCell ⟨BX, 3, none⟩ (.int .i64 z) = w3 at *
 obtain ⟨k0, k1, k2, k3, -⟩ := cells4 (mk_off (l1 := [_]) H3.out).1
 obtain ⟨r0, r1, r2, r3, z0, z1, z2, z3⟩ := cells4 (mk_off (l1 := []) H3.out).1
 go_wp2_with fail
 have h9 := mk_set (l1 := []) (mk_set (l1 := []) (mk_set (l1 := []) (mk_set (l1 := []) H3.out 0 (.int .i64 i)) 1 (.int .i64 s)) 2 (.int .i64 h)) 3 (.int .i64 z)
 exact bodyPost_ret (v := .tuple #[.agg (RC i s h z), .bool true]) (by simp [results, Tryz.results61, go_sem, r0, r1, r2, r3]) rfl ⟨rfl, h9.upd⟩
theorem tick_any {i s h v : Int} {t : Nat} {wt : Bool} (w : World) (H : okc i s h v) (ht : t ≤ 18446744073709551615) :
 Calls Tryz.prog 62 #[.agg (RC i s h v), .int .u64 t, .bool wt] w fun e w' => e = .returned (.agg (RC i s h (tck i h v t wt))) ∧ Upd Nowhere w w' := by
 have HM := fun u => Lib.hid (may_ok u H)
 have hM := m_box (m_box (Made.start w) (RC i s h v) TR) (RC 0 0 0 0) TR
 rw [alloc_size] at hM
 have HMM := Lib.hid hM
 obtain ⟨⟨a1, a2⟩, ⟨a3, a4⟩, ⟨a5, a6⟩, a7, a8⟩ := id H
 by_cases hc : wt = false ∧ 0 ≤ v
 · obtain ⟨rfl, hv⟩ := hc
   have e : tck i h v t false = 0 := by unfold tck; rw [if_neg (by simp), if_neg (by omega)]
   rw [e]
   have d1 : decide (v ≥ 0) = true := decide_eq_true hv
   have d2 : decide (0 ≤ v) = true := decide_eq_true hv
   clear hM e hv a1 a2 a3 a4 a5 a6 a7 a8 H
   go_enter Tryz.func62, Tryz.ntmps62
   go_upto_region 1 with fail
   generalize (w.alloc (.cells (RC i s h v) TR)).alloc (.cells (RC 0 0 0 0) TR) = w1 at *
   obtain ⟨BR, hBR⟩ : ∃ x, w.heap.size + 1 = x := ⟨_, rfl⟩
   try simp only [hBR]
   rw [hBR] at HMM
   clear hBR
   obtain ⟨BX, hBX⟩ : ∃ x, w.heap.size = x := ⟨_, rfl⟩
   try simp only [hBX]
   rw [hBX] at HMM
   clear hBX
   obtain ⟨k0, k1, k2, k3, -⟩ := cells4 (mk_off (l1 := [_]) HMM.out).1
   go_wp2_with fail
   refine ((HM _).out).mono ?_
   rintro e w2 ⟨rfl, u2⟩
   have H2 := Lib.hid (HMM.out.old u2)
   clear HMM u2 HM k0 k1 k2 k3
   obtain ⟨k0, k1, k2, k3, z0, z1, z2, z3⟩ := cells4 (mk_off (l1 := [_]) H2.out).1
   go_upto_region 8 with fail
   have H3 := Lib.hid (mk_set (l1 := [_]) H2.out 3 (.int .i64 0))
   clear H2 k0 k1 k2 k3 z0 z1 z2 z3
   generalize w2.setCell ⟨BX, 3, none⟩ (.int .i64 0) = w3 at *
   obtain ⟨k0, k1, k2, k3, -⟩ := cells4 (mk_off (l1 := [_]) H3.out).1
   obtain ⟨r0, r1, r2, r3, z0, z1, z2, z3⟩ := cells4 (mk_off (l1 := []) H3.out).1
   go_wp2_with fail
   have h9 := mk_set (l1 := []) (mk_set (l1 := []) (mk_set (l1 := []) (mk_set (l1 := []) H3.out 0 (.int .i64 i)) 1 (.int .i64 s)) 2 (.int .i64 h)) 3 (.int .i64 0)
   exact bodyPost_ret (v := .agg (RC i s h 0)) (by simp [results, Tryz.results62, go_sem, r0, r1, r2, r3]) rfl ⟨rfl, h9.upd⟩
 · obtain ⟨bd, hbd⟩ : ∃ bd : Int, (if wt = true then h else 0) = bd := ⟨_, rfl⟩
   have hvb : v ≤ bd ∧ 0 ≤ bd ∧ bd ≤ 1048576 := by
    rw [← hbd]
    cases wt with
    | true => simp; omega
    | false => simp at hc ⊢; omega
   have e : tck i h v t wt = ern i v bd t := by
    unfold tck
    rw [← hbd]
    cases wt with
    | true => simp
    | false => simp at hc; simp; omega
   rw [e, ← ern_ref H hvb.1 hvb.2.2]
   obtain ⟨tm, htm⟩ : ∃ tm, min t 4398046511104 = tm := ⟨_, rfl⟩
   have htm2 : tm ≤ 4398046511104 := by rw [← htm]; exact Nat.min_le_right _ _
   rw [htm]
   obtain ⟨p, hp⟩ : ∃ p : Int, i * (tm : Int) = p := ⟨_, rfl⟩
   have hpl : 0 ≤ p := by rw [← hp]; exact Int.mul_nonneg (by omega) (by omega)
   have hpu : p ≤ 1048576 * 4398046511104 := by rw [← hp]; exact Int.le_trans (Int.mul_le_mul_of_nonneg_right a2 (by omega)) (Int.mul_le_mul_of_nonneg_left (by omega) (by omega))
   rw [hp]
   obtain ⟨z, hz⟩ : ∃ z : Int, v + p = z := ⟨_, rfl⟩
   rw [hz]
   obtain ⟨zr, hzr⟩ : ∃ zr : Int, (if bd < z then bd else z) = zr := ⟨_, rfl⟩
   rw [hzr]
   have HZR := Lib.hid hzr
   clear hzr
   have e0 : IntKind.i64.wrap (tm : Int) = (tm : Int) := by rw [IntKind.wrap_i64]; omega
   have e1 : IntKind.i64.wrap (i * (tm : Int)) = p := by rw [hp, IntKind.wrap_i64]; omega
   have e2 : IntKind.i64.wrap (v + p) = z := by rw [hz, IntKind.wrap_i64]; omega
   have HBD := Lib.hid hbd
   have HHC := Lib.hid hc
   have HTM := Lib.hid htm
   clear hM hpl hpu hp hz H a1 a2 a3 a4 a5 a6 a7 a8 e hvb htm2 htm hc hbd
   go_enter Tryz.func62, Tryz.ntmps62
   go_upto_region 1 with fail
   generalize (w.alloc (.cells (RC i s h v) TR)).alloc (.cells (RC 0 0 0 0) TR) = w1 at *
   obtain ⟨BR, hBR⟩ : ∃ x, w.heap.size + 1 = x := ⟨_, rfl⟩
   try simp only [hBR]
   rw [hBR] at HMM
   clear hBR
   obtain ⟨BX, hBX⟩ : ∃ x, w.heap.size = x := ⟨_, rfl⟩
   try simp only [hBX]
   rw [hBX] at HMM
   clear hBX
   obtain ⟨k0, k1, k2, k3, -⟩ := cells4 (mk_off (l1 := [_]) HMM.out).1
   go_wp2_with fail
   refine ((HM _).out).mono ?_
   rintro e w2 ⟨rfl, u2⟩
   have H2 := Lib.hid (HMM.out.old u2)
   clear HMM u2 HM k0 k1 k2 k3
   obtain ⟨k0, k1, k2, k3, -⟩ := cells4 (mk_off (l1 := [_]) H2.out).1
   go_upto_if 12 with fail
   go_cut [7] (fun v7 wc => v7 = .int .i64 bd ∧ w2 = wc)
   case first =>
    cases wt with
    | true =>
      obtain rfl : h = bd := by simpa using HBD.out
      go_wp2_with fail
      go_meet
      exact ⟨rfl, rfl⟩
    | false =>
      obtain rfl : 0 = bd := by simpa using HBD.out
      go_wp2_with fail
      go_meet
      exact ⟨rfl, rfl⟩
   case rest =>
    obtain ⟨rfl, rfl⟩ := hcut
    obtain ⟨bv, hbv⟩ : ∃ b, (if wt = true then false else decide (0 ≤ v)) = b := ⟨_, rfl⟩
    go_upto_region 6 with fail
    go_cut [21] (fun v21 wc => v21 = .bool false ∧ w2 = wc)
    case first =>
     cases wt with
     | true =>
       go_wp2_with fail
       go_meet
       exact ⟨rfl, rfl⟩
     | false =>
       have hvn : ¬ 0 ≤ v := fun h9 => HHC.out ⟨rfl, h9⟩
       have d1 : decide (v ≥ 0) = false := decide_eq_false hvn
       have d2 : decide (0 ≤ v) = false := decide_eq_false hvn
       go_wp2_with fail
       go_meet
       exact ⟨rfl, rfl⟩
    case rest =>
     obtain ⟨rfl, rfl⟩ := hcut
     go_upto_region 9 with fail
     obtain ⟨tb, htb⟩ : ∃ b, decide (4398046511104 < t) = b := ⟨_, rfl⟩
     have htb2 : decide ((t : Int) > 4398046511104) = tb := by rw [← htb]; exact decide_eq_decide.2 (by omega)
     have htb3 : decide ((4398046511104 : Int) < (t : Int)) = tb := by rw [← htb]; exact decide_eq_decide.2 (by omega)
     have HTB := Lib.hid htb
     go_upto_if 25 with fail
     clear htb htb2 htb3 hbv
     go_cut [1] (fun v1 wc => v1 = .int .u64 tm ∧ w2 = wc)
     case first =>
      cases tb with
      | true =>
        obtain rfl : 4398046511104 = tm := by have h1 := of_decide_eq_true HTB.out; have h2 := HTM.out; omega
        go_wp2_with fail
        go_meet
        exact ⟨rfl, rfl⟩
      | false =>
        obtain rfl : t = tm := by have h1 := of_decide_eq_false HTB.out; have h2 := HTM.out; omega
        go_wp2_with fail
        go_meet
        exact ⟨rfl, rfl⟩
     case rest =>
      obtain ⟨rfl, rfl⟩ := hcut
      obtain ⟨k0, k1, k2, k3, z0, z1, z2, z3⟩ := cells4 (mk_off (l1 := [_]) H2.out).1
      go_upto_region 12 with fail
      have H3 := Lib.hid (mk_set (l1 := [_]) H2.out 3 (.int .i64 z))
      clear H2 k0 k1 k2 k3 z0 z1 z2 z3 e0 e1 e2
      generalize w2.setCell ⟨BX, 3, none⟩ (.int .i64 z) = w3 at *
      obtain ⟨k0, k1, k2, k3, z0, z1, z2, z3⟩ := cells4 (mk_off (l1 := [_]) H3.out).1
      by_cases hz : bd < z
      · have d1 : decide (z > bd) = true := decide_eq_true hz
        have d2 : decide (bd < z) = true := decide_eq_true hz
        obtain rfl : bd = zr := by have := HZR.out; rw [if_pos hz] at this; exact this
        clear hz
        go_upto_region 14 with fail
        have H4 := Lib.hid (mk_set (l1 := [_]) H3.out 3 (.int .i64 bd))
        clear H3 k0 k1 k2 k3 z0 z1 z2 z3
        generalize w3.setCell ⟨BX, 3, none⟩ (.int .i64 bd) = w4 at *
        obtain ⟨k0, k1, k2, k3, -⟩ := cells4 (mk_off (l1 := [_]) H4.out).1
        obtain ⟨r0, r1, r2, r3, z0, z1, z2, z3⟩ := cells4 (mk_off (l1 := []) H4.out).1
        go_wp2_with fail
        have h9 := mk_set (l1 := []) (mk_set (l1 := []) (mk_set (l1 := []) (mk_set (l1 := []) H4.out 0 (.int .i64 i)) 1 (.int .i64 s)) 2 (.int .i64 h)) 3 (.int .i64 bd)
        exact bodyPost_ret (v := .agg (RC i s h bd)) (by simp [results, Tryz.results62, go_sem, r0, r1, r2, r3]) rfl ⟨rfl, h9.upd⟩
      · have d1 : decide (z > bd) = false := decide_eq_false hz
        have d2 : decide (bd < z) = false := decide_eq_false hz
        obtain rfl : z = zr := by have := HZR.out; rw [if_neg hz] at this; exact this
        clear hz
        go_upto_region 14 with fail
        clear k0 k1 k2 k3 z0 z1 z2 z3
        obtain ⟨k0, k1, k2, k3, -⟩ := cells4 (mk_off (l1 := [_]) H3.out).1
        obtain ⟨r0, r1, r2, r3, z0, z1, z2, z3⟩ := cells4 (mk_off (l1 := []) H3.out).1
        go_wp2_with fail
        have h9 := mk_set (l1 := []) (mk_set (l1 := []) (mk_set (l1 := []) (mk_set (l1 := []) H3.out 0 (.int .i64 i)) 1 (.int .i64 s)) 2 (.int .i64 h)) 3 (.int .i64 z)
        exact bodyPost_ret (v := .agg (RC i s h z)) (by simp [results, Tryz.results62, go_sem, r0, r1, r2, r3]) rfl ⟨rfl, h9.upd⟩
end Go.Proofs.YtdddfmdcjjbegaaGreat.Ref23
namespace Go.Proofs.YtdddfmdcjjbegaaGreat.Plan
open Go.RowKit
theorem sum_cons (x : Nat × Nat) (r : List (Nat × Nat)) : sum (x :: r) = x.2 + sum r := by simp [sum]
theorem sum_take_le (l : List (Nat × Nat)) (i : Nat) : sum (l.take i) ≤ sum l := by
 have h : sum l = sum (l.take i) + sum (l.drop i) := by
  conv => lhs; rw [← List.take_append_drop i l]
  unfold sum
  rw [List.map_append, List.sum_append]
 omega
theorem spt_take : ∀ (l : List (Nat × Nat)) (T i : Nat), sum (l.take i) ≤ T → T < sum (l.take (i + 1)) → spt l T = (i, sum (l.take (i + 1)) - T)
 | [], T, i, _, h => by simp [sum] at h
 | (a, s) :: r, T, 0, _, h => by
   have e : sum (((a, s) :: r).take (0 + 1)) = s := by simp [sum]
   rw [e] at h ⊢
   unfold spt
   rw [if_pos h]
 | (a, s) :: r, T, j + 1, h1, h2 => by
   rw [List.take_succ_cons, sum_cons] at h1 h2
   have ih := spt_take r (T - s) j (by dsimp only at h1; omega) (by dsimp only at h2; omega)
   unfold spt
   dsimp only at h1 h2
   rw [if_neg (by dsimp only; omega), ih, List.take_succ_cons, sum_cons]
   dsimp only
   congr 1
   omega
theorem spt_parts : ∀ (l : List (Nat × Nat)) (T : Nat), T < sum l → T + (spt l T).2 = sum (l.take ((spt l T).1 + 1)) ∧ sum (l.take (spt l T).1) ≤ T
 | [], T, h => by simp [sum] at h
 | (a, s) :: r, T, h => by
   rw [sum_cons] at h
   unfold spt
   by_cases hs : T < s
   · rw [if_pos hs]
     refine ⟨?_, by simp [sum]⟩
     have e : sum (((a, s) :: r).take (0 + 1)) = s := by simp [sum]
     rw [e]
     dsimp only
     omega
   · rw [if_neg hs]
     obtain ⟨h1, h2⟩ := spt_parts r (T - s) (by dsimp only at h; omega)
     dsimp only
     rw [List.take_succ_cons, sum_cons, List.take_succ_cons, sum_cons]
     dsimp only
     omega
theorem ok_span {l : List (Nat × Nat)} (h : ok l = true) {i a s : Nat} (hi : l[i]? = some (a, s)) : 1 ≤ s ∧ s ≤ 4294967296 := by
 unfold ok at h
 simp only [Bool.and_eq_true, List.all_eq_true] at h
 have := h.2.2 _ (List.mem_of_getElem? hi)
 unfold rng at this
 simp only [Bool.and_eq_true, decide_eq_true_eq] at this
 exact this
/-- The slot that follows. -/
theorem spt_next {l : List (Nat × Nat)} (h : ok l = true) {T i left : Nat} (hT : T < sum l) (he : spt l T = (i, left)) : ∃ a s, l[(i + 1) % l.length]? = some (a, s) ∧ spt l ((T + left) % sum l) = ((i + 1) % l.length, s) := by
 obtain ⟨h1, h2⟩ := spt_parts l T hT
 obtain ⟨h3, _⟩ := spt_lt l T hT
 rw [he] at h1 h2 h3
 dsimp only at h1 h2 h3
 have hl := ok_len h
 by_cases hi : i + 1 < l.length
 · obtain ⟨⟨a, s⟩, hx⟩ : ∃ x, l[i + 1]? = some x := ⟨l[i + 1], by simp [hi]⟩
   have hs := ok_span h hx
   have e1 := sum_take hx
   have e2 := sum_take_le l (i + 1 + 1)
   rw [Nat.mod_eq_of_lt hi]
   refine ⟨a, s, hx, ?_⟩
   rw [h1, Nat.mod_eq_of_lt (by omega), spt_take l _ (i + 1) (Nat.le_refl _) (by omega), e1]
   congr 1
   omega
 · have hn : i + 1 = l.length := by omega
   obtain ⟨⟨a, s⟩, hx⟩ : ∃ x, l[0]? = some x := ⟨l[0]'(by omega), by simp⟩
   have hs := ok_span h hx
   have e0 : sum (l.take 0) = 0 := by simp [sum]
   have e1 := sum_take hx
   rw [hn, Nat.mod_self]
   refine ⟨a, s, hx, ?_⟩
   rw [h1, hn, List.take_length, Nat.mod_self, spt_take l 0 0 (by omega) (by omega)]
   congr 1
   omega
theorem sum_bound {l : List (Nat × Nat)} (h : ok l = true) : sum l ≤ 274877906944 := by
 have hl := ok_len h
 have := sum_le h l.length
 rw [List.take_length] at this
 omega
/-- Passing open slots: what is left of the sum. -/
structure Pas (l : List (Nat × Nat)) (k T i0 j i left N tot : Nat) : Prop where
 at_ : spt l ((T + N) % sum l) = (i, left)
 ij : i = (i0 + j) % l.length
 jn : j ≤ l.length
 op : ∀ t a s, t < j → l[(i0 + t) % l.length]? = some (a, s) → opn k (a, s) = true
 sm : sumS ((strs l k (2 * l.length + 1 - j) i left).takeWhile (fun x => !stopS x)) + N = tot
theorem Pas.start {l : List (Nat × Nat)} {k T : Nat} (hT : T < sum l) : Pas l k T (spt l T).1 0 (spt l T).1 (spt l T).2 0 (sumS ((strs l k (2 * l.length + 1) (spt l T).1 (spt l T).2).takeWhile (fun x => !stopS x))) := by
 obtain ⟨h3, _⟩ := spt_lt l T hT
 exact ⟨by rw [Nat.add_zero, Nat.mod_eq_of_lt hT], by rw [Nat.add_zero, Nat.mod_eq_of_lt h3], Nat.zero_le _, fun t _ _ ht => by omega, by rw [Nat.sub_zero, Nat.add_zero]⟩
theorem strs_step {l : List (Nat × Nat)} {k f i left a s : Nat} (hx : l[i]? = some (a, s)) : strs l k (f + 1) i left = (opn k (a, s), left) :: strs l k f ((i + 1) % l.length) (l.getD ((i + 1) % l.length) (0, 0)).2 := by
 have hg : l.getD i (0, 0) = (a, s) := by rw [List.getD_eq_getElem?_getD, hx]; rfl
 conv => lhs; unfold strs
 rw [hg]
theorem Pas.stop {l : List (Nat × Nat)} {k T i0 j i left N tot a s : Nat} (P : Pas l k T i0 j i left N tot) (hx : l[i]? = some (a, s)) (hc : opn k (a, s) = false) : N = tot := by
 have h := P.sm
 obtain ⟨f, hf⟩ : ∃ f, 2 * l.length + 1 - j = f + 1 := ⟨2 * l.length - j, by have := P.jn; omega⟩
 rw [hf, strs_step hx, hc] at h
 simp [stopS, sumS] at h
 exact h
theorem Pas.step {l : List (Nat × Nat)} (h : ok l = true) {k T i0 j i left N tot a s : Nat} (hall : l.all (opn k) = false) (hi0 : i0 < l.length) (P : Pas l k T i0 j i left N tot) (hx : l[i]? = some (a, s)) (hc : opn k (a, s) = true) : j < l.length ∧ ∃ i' left', Pas l k T i0 (j + 1) i' left' (N + left) tot := by
 have hl := ok_len h
 have hop : ∀ t a' s', t < j + 1 → l[(i0 + t) % l.length]? = some (a', s') → opn k (a', s') = true := fun t a' s' ht hh => by
  rcases Nat.lt_or_ge t j with h1 | h1
  · exact P.op t a' s' h1 hh
  · obtain rfl : t = j := by omega
    rw [← P.ij, hx] at hh
    cases hh
    exact hc
 have hjl : j < l.length := by
  rcases Nat.lt_or_ge j l.length with h' | h'
  · exact h'
  · exfalso
    have : l.all (opn k) = true := by
     rw [List.all_eq_true]
     intro x hm
     obtain ⟨q, hq⟩ := List.getElem?_of_mem hm
     have hql : q < l.length := by
      rcases Nat.lt_or_ge q l.length with h'' | h''
      · exact h''
      · rw [List.getElem?_eq_none h''] at hq; cases hq
     obtain ⟨a', s'⟩ := x
     by_cases hge : i0 ≤ q
     · refine hop (q - i0) a' s' (by omega) ?_
       rw [show i0 + (q - i0) = q by omega, Nat.mod_eq_of_lt hql]; exact hq
     · refine hop (q + l.length - i0) a' s' (by omega) ?_
       rw [show i0 + (q + l.length - i0) = q + l.length by omega, Nat.add_mod_right, Nat.mod_eq_of_lt hql]; exact hq
    rw [this] at hall
    cases hall
 refine ⟨hjl, ?_⟩
 have hpos := sum_pos h
 obtain ⟨a', s', hx', hs'⟩ := spt_next h (Nat.mod_lt (T + N) (by omega)) P.at_
 refine ⟨(i + 1) % l.length, s', ?_, ?_, by omega, hop, ?_⟩
 · rw [← hs', ← Nat.add_assoc, Nat.mod_add_mod]
 · rw [P.ij, Nat.mod_add_mod, Nat.add_assoc]
 · have hsm := P.sm
   obtain ⟨f, hf⟩ : ∃ f, 2 * l.length + 1 - j = f + 1 := ⟨2 * l.length - j, by omega⟩
   rw [hf, strs_step hx, hc] at hsm
   have hg' : l.getD ((i + 1) % l.length) (0, 0) = (a', s') := by rw [List.getD_eq_getElem?_getD, hx']; rfl
   rw [hg'] at hsm
   rw [show 2 * l.length + 1 - (j + 1) = f by omega]
   rw [List.takeWhile_cons, if_pos (by rfl), sumS_cons] at hsm
   dsimp only at hsm
   omega
end Go.Proofs.YtdddfmdcjjbegaaGreat.Plan
namespace Go.Proofs.YtdddfmdcjjbegaaGreat.Ref22
open Go.RowKit Go.Proofs BigFrame
open Plan (At ok rng sum spt opn stn ok_len ok_span sum_take sum_le sum_pos sum_bound sum_take_le)
set_option maxHeartbeats 4000000
set_option maxRecDepth 1000000
set_option linter.unusedSimpArgs false
theorem may_any {w : World} {l : List (Nat × Nat)} {g o c : Nat} (h : At w g o l) (h2 : l.length ≤ 70) :
 Calls Tryz.prog 48 #[.slice (some ⟨g, o, none⟩) l.length c] w fun e w' => e = .returned (.bool (ok l)) ∧ w = w' := by
 obtain ⟨n, hn⟩ : ∃ n, l.length = n := ⟨_, rfl⟩
 have HN := Lib.hid hn
 have H := Lib.hid h
 obtain ⟨B, hB⟩ : ∃ B, ok l = B := ⟨_, rfl⟩
 have HB := Lib.hid hB
 rw [hB]
 rw [hn] at h2 ⊢
 clear hn h hB
 go_enter Tryz.func48, Tryz.ntmps48
 go_upto_region 2 with fail
 go_loopg [3] (n + 1) (fun gk v3 wr => ∃ (i : Nat), n - i < gk ∧ i ≤ n ∧ v3 = .int .i64 i ∧ w = wr ∧ Hid (∀ (j : Nat) (s : Nat × Nat), j < i → l[j]? = some s → rng s = true))
 case atStart => exact ⟨0, by omega, Nat.zero_le _, rfl, rfl, Lib.hid (fun j s hj => by omega)⟩
 case round =>
  obtain ⟨i, hgk, hin, rfl, rfl, HR⟩ := hrel
  have HGK := Lib.hid hgk
  clear hgk
  rcases Nat.lt_or_ge i n with hlt | hge
  · obtain ⟨⟨a, s⟩, hx⟩ : ∃ x, l[i]? = some x := ⟨l[i]'(by have := HN.out; omega), by simp⟩
    obtain ⟨m0, m1, m2, m3⟩ := H.out i a s hx
    have hI : (i : Int) < n := by omega
    by_cases h1 : s < 1
    · have d1 : decide (s < 1) = true := decide_eq_true h1
      have d2 : decide ((s : Int) < 1) = true := decide_eq_true (by omega)
      have d3 : decide (s = 0) = true := decide_eq_true (by omega)
      have hno : B = false := HB.out.symm.trans (Plan.ok_no hx (by unfold rng; rw [decide_eq_false (by show ¬ 1 ≤ s; omega)]; rfl))
      subst hno
      clear h1 hx m2 m3
      go_wp2_with fail
      go_ret
      exact ⟨rfl, rfl⟩
    · have d1 : decide (s < 1) = false := decide_eq_false h1
      have d2 : decide ((s : Int) < 1) = false := decide_eq_false (by omega)
      have d3 : decide (s = 0) = false := decide_eq_false (by omega)
      by_cases h3 : 4294967296 < s
      · have e1 : decide (4294967296 < s) = true := decide_eq_true h3
        have e2 : decide ((s : Int) > 4294967296) = true := decide_eq_true (by omega)
        have e3 : decide ((4294967296 : Int) < (s : Int)) = true := decide_eq_true (by omega)
        have hno : B = false := HB.out.symm.trans (Plan.ok_no hx (by unfold rng; rw [decide_eq_false (show ¬ s ≤ 4294967296 by omega)]; simp))
        subst hno
        clear h1 h3 hx m2 m3
        go_wp2_with fail
        go_ret
        exact ⟨rfl, rfl⟩
      · have e1 : decide (4294967296 < s) = false := decide_eq_false h3
        have e2 : decide ((s : Int) > 4294967296) = false := decide_eq_false (by omega)
        have e3 : decide ((4294967296 : Int) < (s : Int)) = false := decide_eq_false (by omega)
        have hr : rng (a, s) = true := by unfold rng; simp; omega
        have HR2 : Hid (∀ (j : Nat) (s : Nat × Nat), j < i + 1 → l[j]? = some s → rng s = true) := Lib.hid (fun j q hj hq => by
         rcases Nat.lt_or_ge j i with h' | h'
         · exact HR.out j q h' hq
         · obtain rfl : j = i := by omega
           rw [hx] at hq; cases hq; exact hr)
        clear hr h1 h3 hx m2 m3 HR
        go_wp2_with fail
        go_roundg (n - i)
        case rel => exact ⟨i + 1, by omega, by omega, rfl, rfl, HR2⟩
        case measure => have := HGK.out; omega
  · obtain rfl : i = n := by omega
    have dI : decide ((i : Int) < i) = false := by simp
    have hall : l.all rng = true := by
     rw [List.all_eq_true]
     intro x hx
     obtain ⟨j, hj⟩ := List.getElem?_of_mem hx
     have : j < l.length := by
      rcases Nat.lt_or_ge j l.length with h' | h'
      · exact h'
      · rw [List.getElem?_eq_none h'] at hj; cases hj
     exact HR.out j x (by have := HN.out; omega) hj
    have e : B = (decide (1 ≤ i) && decide (i ≤ 64)) := HB.out.symm.trans (by unfold ok; rw [hall, HN.out, Bool.and_true])
    clear hall HR
    by_cases h1 : 1 ≤ i
    · have d1 : decide (1 ≤ i) = true := decide_eq_true h1
      have d2 : decide ((i : Int) ≥ 1) = true := decide_eq_true (by omega)
      have d3 : decide ((1 : Int) ≤ (i : Int)) = true := decide_eq_true (by omega)
      obtain ⟨b, hb⟩ : ∃ b, decide (i ≤ 64) = b := ⟨_, rfl⟩
      have e2 : decide ((i : Int) ≤ 64) = b := by rw [← hb]; exact decide_eq_decide.2 (by omega)
      obtain rfl : B = b := by rw [e, d1, hb]; rfl
      clear e hb
      go_wp2_with fail
      go_ret
      exact ⟨rfl, rfl⟩
    · have d1 : decide (1 ≤ i) = false := decide_eq_false h1
      have d2 : decide ((i : Int) ≥ 1) = false := decide_eq_false (by omega)
      have d3 : decide ((1 : Int) ≤ (i : Int)) = false := decide_eq_false (by omega)
      obtain rfl : B = false := by rw [e, d1]; rfl
      clear e
      go_wp2_with fail
      go_ret
      exact ⟨rfl, rfl⟩
theorem round_any {w : World} {l : List (Nat × Nat)} {g o c : Nat} (h : At w g o l) (hok : ok l = true) :
 Calls Tryz.prog 128 #[.slice (some ⟨g, o, none⟩) l.length c] w fun e w' => e = .returned (.int .u64 (sum l : Nat)) ∧ w = w' := by
 have h64 := (ok_len hok).2
 obtain ⟨n, hn⟩ : ∃ n, l.length = n := ⟨_, rfl⟩
 have HN := Lib.hid hn
 have H := Lib.hid h
 have HS := Lib.hid (sum_bound hok)
 obtain ⟨S, hS⟩ : ∃ S, sum l = S := ⟨_, rfl⟩
 have HSS := Lib.hid hS
 rw [hS]
 rw [hn] at h64 ⊢
 clear hn h hok hS
 go_enter Tryz.func128, Tryz.ntmps128
 go_upto_region 3 with fail
 go_loopg [3, 4] (n + 1) (fun gk v3 v4 wr => ∃ (i t : Nat), n - i < gk ∧ i ≤ n ∧ v4 = .int .i64 i ∧ v3 = .int .u64 t ∧ w = wr ∧ Hid (sum (l.take i) = t))
 case atStart => exact ⟨0, 0, by omega, Nat.zero_le _, rfl, rfl, rfl, Lib.hid (by simp [sum])⟩
 case round =>
  obtain ⟨i, t, hgk, hin, rfl, rfl, rfl, HT⟩ := hrel
  have HGK := Lib.hid hgk
  clear hgk
  rcases Nat.lt_or_ge i n with hlt | hge
  · obtain ⟨⟨a, s⟩, hx⟩ : ∃ x, l[i]? = some x := ⟨l[i]'(by have := HN.out; omega), by simp⟩
    obtain ⟨m0, m1, m2, m3⟩ := H.out i a s hx
    have hI : (i : Int) < n := by omega
    obtain ⟨t2, ht2⟩ : ∃ t2, t + s = t2 := ⟨_, rfl⟩
    have hst := sum_take hx
    rw [HT.out, ht2] at hst
    have hle := sum_take_le l (i + 1)
    rw [hst] at hle
    have e1 : IntKind.u64.wrap ((t : Int) + (s : Int)) = (t2 : Int) := by rw [IntKind.wrap_u64]; have := HS.out; omega
    have HT2 := Lib.hid hst
    clear ht2 hst hle hx m2 m3
    go_wp2_with fail
    go_roundg (n - i)
    case rel => exact ⟨i + 1, t2, by omega, by omega, rfl, rfl, rfl, HT2⟩
    case measure => have := HGK.out; omega
  · obtain rfl : i = n := by omega
    have dI : decide ((i : Int) < i) = false := by simp
    obtain rfl : S = t := by rw [← HT.out, ← HSS.out, List.take_of_length_le (by rw [HN.out]; exact Nat.le_refl _)]
    go_wp2_with fail
    go_ret
    exact ⟨rfl, rfl⟩
theorem slot_any {w : World} {l : List (Nat × Nat)} {g o c at_ : Nat} (h : At w g o l) (hok : ok l = true) (hat : at_ ≤ 18446744073709551615) :
 Calls Tryz.prog 129 #[.slice (some ⟨g, o, none⟩) l.length c, .int .u64 at_] w fun e w' => e = .returned (.tuple #[.int .i64 ((spt l (at_ % sum l)).1 : Nat), .int .u64 (at_ % sum l + (spt l (at_ % sum l)).2 : Nat)]) ∧ w = w' := by
 have hpos := sum_pos hok
 have hbd := sum_bound hok
 have HRD := Lib.hid (round_any (c := c) h hok)
 obtain ⟨T, hT⟩ : ∃ T, at_ % sum l = T := ⟨_, rfl⟩
 have hTl : T < sum l := by rw [← hT]; exact Nat.mod_lt _ (by omega)
 rw [hT]
 obtain ⟨⟨I0, L0⟩, hIL⟩ : ∃ x, spt l T = x := ⟨_, rfl⟩
 obtain ⟨E0, hE0⟩ : ∃ x, T + L0 = x := ⟨_, rfl⟩
 have HIL := Lib.hid hIL
 have HE0 := Lib.hid hE0
 rw [hIL]
 dsimp only
 rw [hE0]
 clear hIL hE0
 obtain ⟨n, hn⟩ : ∃ n, l.length = n := ⟨_, rfl⟩
 have h64 := (ok_len hok).2
 obtain ⟨S, hS⟩ : ∃ S, sum l = S := ⟨_, rfl⟩
 rw [hn] at HRD h64
 rw [hS] at HRD hT hTl hbd hpos
 rw [hn]
 have HN := Lib.hid hn
 have H := Lib.hid h
 have HS := Lib.hid hS
 have e1 : ((at_ : Int)).tmod (S : Int) = (T : Int) := by rw [Int.tmod_eq_emod_of_nonneg (by omega)]; omega
 have e2 : (at_ : Int) % (S : Int) = (T : Int) := by omega
 have e3 : ¬ (S = 0) := by omega
 have HT := Lib.hid hTl
 have HBD := Lib.hid hbd
 clear hn h hS hok hpos hT hat hTl hbd
 go_enter Tryz.func129, Tryz.ntmps129
 go_wp2_with fail
 refine (HRD.out).mono ?_
 rintro e w' ⟨rfl, rfl⟩
 go_upto_region 4 with fail
 clear e1 e2
 go_loopg [6, 7] (n + 1) (fun gk v6 v7 wr => ∃ (i t : Nat), n - i < gk ∧ i ≤ n ∧ v7 = .int .i64 i ∧ v6 = .int .u64 t ∧ w = wr ∧ Hid (sum (l.take i) = t) ∧ Hid (t ≤ T))
 case atStart => exact ⟨0, 0, by omega, Nat.zero_le _, rfl, rfl, rfl, Lib.hid (by simp [sum]), Lib.hid (Nat.zero_le _)⟩
 case round =>
  obtain ⟨i, t, hgk, hin, rfl, rfl, rfl, HI, HTT⟩ := hrel
  have HGK := Lib.hid hgk
  clear hgk
  rcases Nat.lt_or_ge i n with hlt | hge
  · obtain ⟨⟨a, s⟩, hx⟩ : ∃ x, l[i]? = some x := ⟨l[i]'(by have := HN.out; omega), by simp⟩
    obtain ⟨m0, m1, m2, m3⟩ := H.out i a s hx
    have hI : (i : Int) < n := by omega
    obtain ⟨t2, ht2⟩ : ∃ t2, t + s = t2 := ⟨_, rfl⟩
    have hst := sum_take hx
    rw [HI.out, ht2] at hst
    have hle := sum_take_le l (i + 1)
    rw [hst, HS.out] at hle
    have e1 : IntKind.u64.wrap ((t : Int) + (s : Int)) = (t2 : Int) := by rw [IntKind.wrap_u64]; have := HBD.out; omega
    have HI2 := Lib.hid hst
    clear ht2 hst hle hx m2 m3
    by_cases hlt2 : T < t2
    · have d1 : decide (T < t2) = true := decide_eq_true hlt2
      have d2 : decide ((T : Int) < (t2 : Int)) = true := decide_eq_true (by omega)
      have e5 := Plan.spt_take l T i (by rw [HI.out]; exact HTT.out) (by rw [HI2.out]; exact hlt2)
      rw [HIL.out, HI2.out] at e5
      obtain ⟨e6, e7⟩ : I0 = i ∧ L0 = t2 - T := by injection e5 with e6 e7; exact ⟨e6, e7⟩
      subst e6
      obtain rfl : E0 = t2 := by rw [← HE0.out, e7]; omega
      clear hlt2 e5 e7
      go_wp2_with fail
      go_ret2
      exact ⟨rfl, rfl⟩
    · have d1 : decide (T < t2) = false := decide_eq_false hlt2
      have d2 : decide ((T : Int) < (t2 : Int)) = false := decide_eq_false (by omega)
      have HT2 : Hid (t2 ≤ T) := Lib.hid (by omega)
      clear hlt2
      go_wp2_with fail
      go_roundg (n - i)
      case rel => exact ⟨i + 1, t2, by omega, by omega, rfl, rfl, rfl, HI2, HT2⟩
      case measure => have := HGK.out; omega
  · exfalso
    have h1 := HI.out
    rw [List.take_of_length_le (by rw [HN.out]; exact hge), HS.out] at h1
    have h2 := HTT.out
    have h3 := HT.out
    omega
theorem is_any {w : World} {l : List (Nat × Nat)} {g o c at_ k : Nat} (h : At w g o l) (hok : ok l = true) (hat : at_ ≤ 18446744073709551615) (hk : k < 8) :
 Calls Tryz.prog 127 #[.slice (some ⟨g, o, none⟩) l.length c, .int .i64 k, .int .u64 at_] w fun e w' => e = .returned (.bool (opn k (l.getD (spt l (at_ % sum l)).1 (0, 0)))) ∧ w = w' := by
 have HSL := Lib.hid (slot_any (c := c) h hok hat)
 have hpos := sum_pos hok
 obtain ⟨hil, _⟩ := Plan.spt_lt l (at_ % sum l) (Nat.mod_lt _ (by omega))
 generalize at_ % sum l + (spt l (at_ % sum l)).2 = en at HSL
 obtain ⟨i, hi⟩ : ∃ i, (spt l (at_ % sum l)).1 = i := ⟨_, rfl⟩
 rw [hi] at HSL hil ⊢
 obtain ⟨⟨a, s⟩, hx⟩ : ∃ x, l[i]? = some x := ⟨l[i], by simp [hil]⟩
 have hg : l.getD i (0, 0) = (a, s) := by rw [List.getD_eq_getElem?_getD, hx]; rfl
 rw [hg]
 obtain ⟨m0, m1, m2, m3⟩ := h i a s hx
 have hI : (i : Int) < (l.length : Nat) := by omega
 generalize l.length = n at *
 have hopn : opn k (a, s) = decide (a / 2 ^ k % 2 = 1) := rfl
 rw [hopn]
 obtain ⟨B, hB⟩ : ∃ B, decide (a / 2 ^ k % 2 = 1) = B := ⟨_, rfl⟩
 have HB := Lib.hid hB
 rw [hB]
 clear hok hpos hB hil hi hx hg hopn h m1 m3 hat
 go_enter Tryz.func127, Tryz.ntmps127
 go_wp2_with fail
 refine (HSL.out).mono ?_
 rintro e w' ⟨rfl, rfl⟩
 go_upto_region 4 with fail
 have HA := Lib.hid m2
 clear m0 m2
 go_loopg [9, 10] (k + 1) (fun gk v9 v10 wr => ∃ (j q : Nat), k - j < gk ∧ j ≤ k ∧ v10 = .int .i64 j ∧ v9 = .int .u8 q ∧ w = wr ∧ Hid (a / 2 ^ j = q))
 case atStart => exact ⟨0, a, by omega, Nat.zero_le _, rfl, rfl, rfl, Lib.hid (by simp)⟩
 case round =>
  obtain ⟨j, q, hgk, hjk, rfl, rfl, rfl, HQ⟩ := hrel
  have HGK := Lib.hid hgk
  have hq : q < 256 := by have h1 := HQ.out; have h2 := HA.out; have := Nat.div_le_self a (2 ^ j); omega
  clear hgk
  rcases Nat.lt_or_ge j k with hlt | hge
  · have hJ : (j : Int) < k := by omega
    have dJ : decide (j < k) = true := decide_eq_true hlt
    obtain ⟨q2, hq2⟩ : ∃ q2, q / 2 = q2 := ⟨_, rfl⟩
    have e1 : ((q : Int)).tdiv 2 = (q2 : Int) := by rw [Int.tdiv_eq_ediv_of_nonneg (by omega)]; omega
    have e2 : (q : Int) / 2 = (q2 : Int) := by omega
    have e3 : IntKind.u8.wrap (q2 : Int) = (q2 : Int) := by rw [IntKind.wrap_u8]; omega
    have HQ2 : Hid (a / 2 ^ (j + 1) = q2) := Lib.hid (by rw [← hq2, ← HQ.out, Nat.pow_succ, ← Nat.div_div_eq_div_mul])
    clear hq2 hq
    go_wp2_with fail
    go_roundg (k - j)
    case rel => exact ⟨j + 1, q2, by omega, by omega, by first | rfl | go_num, by first | rfl | go_num, rfl, HQ2⟩
    case measure => have := HGK.out; omega
  · obtain rfl : j = k := by omega
    have dJ : decide ((j : Int) < j) = false := by simp
    obtain ⟨r, hr⟩ : ∃ r, q % 2 = r := ⟨_, rfl⟩
    have e1 : ((q : Int)).tmod 2 = (r : Int) := by rw [Int.tmod_eq_emod_of_nonneg (by omega)]; omega
    have e2 : (q : Int) % 2 = (r : Int) := by omega
    obtain ⟨b, hb⟩ : ∃ b, decide (r = 1) = b := ⟨_, rfl⟩
    have e3 : ((r : Int) == 1) = b := by rw [← hb]; cases hd : decide (r = 1) with
     | true => have := of_decide_eq_true hd; simp; omega
     | false => have := of_decide_eq_false hd; simp; omega
    obtain rfl : B = b := by rw [← HB.out, HQ.out, hr, hb]
    clear hr hb hq
    go_wp2_with fail
    go_ret
    exact ⟨rfl, rfl⟩
theorem always_any {w : World} {l : List (Nat × Nat)} {g o c k : Nat} (h : At w g o l) (hok : ok l = true) (hk : k < 8) :
 Calls Tryz.prog 113 #[.slice (some ⟨g, o, none⟩) l.length c, .int .i64 k] w fun e w' => e = .returned (.bool (l.all (opn k))) ∧ w = w' := by
 have hbd := sum_bound hok
 have HIS := fun (T : Nat) (hT : T ≤ 18446744073709551615) => Lib.hid (is_any (c := c) (k := k) h hok hT hk)
 obtain ⟨n, hn⟩ : ∃ n, l.length = n := ⟨_, rfl⟩
 have h64 := (ok_len hok).2
 have HN := Lib.hid hn
 have H := Lib.hid h
 have HOK := Lib.hid hok
 have HBD := Lib.hid hbd
 obtain ⟨B, hB⟩ : ∃ B, l.all (opn k) = B := ⟨_, rfl⟩
 have HB := Lib.hid hB
 rw [hB]
 simp only [hn] at HIS
 rw [hn] at h64 ⊢
 clear hn h hok hbd hB
 go_enter Tryz.func113, Tryz.ntmps113
 go_upto_region 3 with fail
 go_loopg [5, 6] (n + 1) (fun gk v5 v6 wr => ∃ (i t : Nat), n - i < gk ∧ i ≤ n ∧ v6 = .int .i64 i ∧ v5 = .int .u64 t ∧ w = wr ∧ Hid (sum (l.take i) = t) ∧ Hid (∀ (j : Nat) (s : Nat × Nat), j < i → l[j]? = some s → opn k s = true))
 case atStart => exact ⟨0, 0, by omega, Nat.zero_le _, rfl, rfl, rfl, Lib.hid (by simp [sum]), Lib.hid (fun j s hj => by omega)⟩
 case round =>
  obtain ⟨i, t, hgk, hin, rfl, rfl, rfl, HI, HO⟩ := hrel
  have HGK := Lib.hid hgk
  clear hgk
  rcases Nat.lt_or_ge i n with hlt | hge
  · obtain ⟨⟨a, s⟩, hx⟩ : ∃ x, l[i]? = some x := ⟨l[i]'(by have := HN.out; omega), by simp⟩
    obtain ⟨m0, m1, m2, m3⟩ := H.out i a s hx
    have hI : (i : Int) < n := by omega
    have hsp := ok_span HOK.out hx
    obtain ⟨t2, ht2⟩ : ∃ t2, t + s = t2 := ⟨_, rfl⟩
    have hst := sum_take hx
    rw [HI.out, ht2] at hst
    have hle := sum_take_le l (i + 1)
    rw [hst] at hle
    have e1 : IntKind.u64.wrap ((t : Int) + (s : Int)) = (t2 : Int) := by rw [IntKind.wrap_u64]; have := HBD.out; omega
    have hsp2 := Plan.spt_take l t i (by rw [HI.out]; exact Nat.le_refl _) (by rw [hst]; omega)
    have hm : t % sum l = t := Nat.mod_eq_of_lt (by omega)
    have hg : l.getD i (0, 0) = (a, s) := by rw [List.getD_eq_getElem?_getD, hx]; rfl
    have H1 := (HIS t (by have := HBD.out; omega)).out
    rw [hm, hsp2] at H1
    dsimp only at H1
    rw [hg] at H1
    have HI2 := Lib.hid hst
    cases hc : opn k (a, s) with
    | false =>
      rw [hc] at H1
      obtain rfl : B = false := by rw [← HB.out, List.all_eq_false]; exact ⟨_, List.mem_of_getElem? hx, by rw [hc]; simp⟩
      have H1 := Lib.hid H1
      clear ht2 hst hle hx m2 m3 hsp hsp2 hm hg hc HIS
      go_wp2_with fail
      refine (H1.out).mono ?_
      rintro e w' ⟨rfl, rfl⟩
      go_wp2_with fail
      go_ret
      exact ⟨rfl, rfl⟩
    | true =>
      rw [hc] at H1
      have HO2 : Hid (∀ (j : Nat) (s : Nat × Nat), j < i + 1 → l[j]? = some s → opn k s = true) := Lib.hid (fun j q hj hq => by
       rcases Nat.lt_or_ge j i with h' | h'
       · exact HO.out j q h' hq
       · obtain rfl : j = i := by omega
         rw [hx] at hq; cases hq; exact hc)
      have H1 := Lib.hid H1
      clear ht2 hst hle hx m2 m3 hsp hsp2 hm hg hc HO
      go_wp2_with fail
      refine (H1.out).mono ?_
      rintro e w' ⟨rfl, rfl⟩
      go_wp2_with fail
      go_roundg (n - i)
      case rel => exact ⟨i + 1, t2, by omega, by omega, rfl, rfl, rfl, HI2, HO2⟩
      case measure => have := HGK.out; omega
  · obtain rfl : i = n := by omega
    have dI : decide ((i : Int) < i) = false := by simp
    obtain rfl : B = true := by
     rw [← HB.out, List.all_eq_true]
     intro x hx
     obtain ⟨j, hj⟩ := List.getElem?_of_mem hx
     have : j < l.length := by
      rcases Nat.lt_or_ge j l.length with h' | h'
      · exact h'
      · rw [List.getElem?_eq_none h'] at hj; cases hj
     exact HO.out j x (by have := HN.out; omega) hj
    go_wp2_with fail
    go_ret
    exact ⟨rfl, rfl⟩
theorem stays_any {w : World} {l : List (Nat × Nat)} {g o c k at_ : Nat} (h : At w g o l) (hok : ok l = true) (hk : k < 8) (hat : at_ ≤ 18446744073709551615) (hall : l.all (opn k) = false) :
 Calls Tryz.prog 114 #[.slice (some ⟨g, o, none⟩) l.length c, .int .i64 k, .int .u64 at_] w fun e w' => e = .returned (.int .u64 ((Plan.stn l k at_).1 : Nat)) ∧ w = w' := by
 have hbd := sum_bound hok
 have hpos := sum_pos hok
 have HIS := fun (T : Nat) (hT : T ≤ 18446744073709551615) => Lib.hid (is_any (c := c) (k := k) h hok hT hk)
 have HSL := fun (T : Nat) (hT : T ≤ 18446744073709551615) => Lib.hid (slot_any (c := c) h hok hT)
 have HRD := Lib.hid (round_any (c := c) h hok)
 have hT : at_ % sum l < sum l := Nat.mod_lt _ (by omega)
 obtain ⟨hi0, _⟩ := Plan.spt_lt l (at_ % sum l) hT
 have hP0 := Plan.Pas.start (k := k) hT
 have hst : (Plan.stn l k at_).1 = Plan.sumS ((Plan.strs l k (2 * l.length + 1) (spt l (at_ % sum l)).1 (spt l (at_ % sum l)).2).takeWhile (fun x => !Plan.stopS x)) := by
  unfold Plan.stn; rw [hall]; rfl
 have htot := Plan.runs_sum hok k at_
 have htw : Plan.sumS ((Plan.runs l k at_).takeWhile (fun x => !Plan.stopS x)) ≤ Plan.sumS (Plan.runs l k at_) := by
  conv => rhs; rw [← List.takeWhile_append_dropWhile (p := fun x => !Plan.stopS x) (l := Plan.runs l k at_)]
  rw [Plan.sumS_app]; omega
 have hbt : (Plan.stn l k at_).1 ≤ 554050781184 := by rw [hst]; exact Nat.le_trans htw htot
 rw [← hst] at hP0
 obtain ⟨tot, htt⟩ : ∃ tot, (Plan.stn l k at_).1 = tot := ⟨_, rfl⟩
 rw [htt] at hP0 hbt ⊢
 obtain ⟨T, hTT⟩ : ∃ T, at_ % sum l = T := ⟨_, rfl⟩
 rw [hTT] at hP0 hT hi0
 obtain ⟨i0, hI0⟩ : ∃ i0, (spt l T).1 = i0 := ⟨_, rfl⟩
 rw [hI0] at hP0 hi0
 obtain ⟨n, hn⟩ : ∃ n, l.length = n := ⟨_, rfl⟩
 obtain ⟨S, hS⟩ : ∃ S, sum l = S := ⟨_, rfl⟩
 simp only [hn] at HIS HSL
 rw [hn] at HRD
 rw [hS] at HRD
 have e1 : ((at_ : Int)).tmod (S : Int) = (T : Int) := by rw [Int.tmod_eq_emod_of_nonneg (by omega)]; rw [hS] at hTT; omega
 have e2 : (at_ : Int) % (S : Int) = (T : Int) := by rw [hS] at hTT; omega
 have e3 : ¬ (S = 0) := by omega
 have HP0 := Lib.hid hP0
 have HN := Lib.hid hn
 have HS := Lib.hid hS
 have HOK := Lib.hid hok
 have HALL := Lib.hid hall
 have HT := Lib.hid hT
 have HI0 := Lib.hid hi0
 have HBD := Lib.hid hbd
 rw [hn]
 clear h hok hall hbd hpos hT hi0 hP0 hst htot htw htt hTT hI0 hn hS hat
 go_enter Tryz.func114, Tryz.ntmps114
 go_wp2_with fail
 refine (HRD.out).mono ?_
 rintro e w' ⟨rfl, rfl⟩
 go_upto_region 3 with fail
 clear e1 e2
 go_loopg [7, 8, 9] (n + 1) (fun gk v7 _ _ wr => ∃ (j i left N : Nat), n - j < gk ∧ v7 = .int .u64 N ∧ w = wr ∧ Hid (Plan.Pas l k T i0 j i left N tot))
 case atStart => exact ⟨0, _, _, 0, by omega, rfl, rfl, HP0⟩
 case round =>
  obtain ⟨j, i, left, N, hgk, rfl, rfl, HP⟩ := hrel
  have HGK := Lib.hid hgk
  clear hgk
  have hNt : N ≤ tot := by have := HP.out.sm; omega
  obtain ⟨TN, hTN⟩ : ∃ TN, T + N = TN := ⟨_, rfl⟩
  have hTNb : TN ≤ 18446744073709551615 := by have := HT.out; have := HBD.out; omega
  have f1 : IntKind.u64.wrap ((T : Int) + (N : Int)) = (TN : Int) := by rw [IntKind.wrap_u64]; omega
  have hsp := HP.out.at_
  rw [hTN] at hsp
  have H1 := (HIS TN hTNb).out
  have H2 := (HSL TN hTNb).out
  rw [hsp] at H1 H2
  dsimp only at H1 H2
  obtain ⟨T2, hT2⟩ : ∃ T2, TN % sum l = T2 := ⟨_, rfl⟩
  rw [hT2] at H2 hsp
  have hT2l : T2 < sum l := by rw [← hT2]; have := HT.out; exact Nat.mod_lt _ (by omega)
  obtain ⟨hil, a, s, hx, hlf1, hlf2⟩ := Plan.spt_lt l T2 hT2l
  rw [hsp] at hil hx hlf1 hlf2
  dsimp only at hil hx hlf1 hlf2
  have hg : l.getD i (0, 0) = (a, s) := by rw [List.getD_eq_getElem?_getD, hx]; rfl
  rw [hg] at H1
  obtain ⟨EN, hEN⟩ : ∃ EN, T2 + left = EN := ⟨_, rfl⟩
  rw [hEN] at H2
  have f2 : ((TN : Int)).tmod (S : Int) = (T2 : Int) := by rw [Int.tmod_eq_emod_of_nonneg (by omega)]; rw [HS.out] at hT2; omega
  have f3 : (TN : Int) % (S : Int) = (T2 : Int) := by rw [HS.out] at hT2; omega
  have hsp3 := ok_span HOK.out hx
  have f4 : IntKind.u64.wrap ((EN : Int) - (T2 : Int)) = (left : Int) := by rw [IntKind.wrap_u64]; omega
  have H2 := Lib.hid H2
  cases hc : opn k (a, s) with
  | false =>
    rw [hc] at H1
    have hNe := HP.out.stop hx hc
    subst hNe
    have H1 := Lib.hid H1
    clear hTN hsp hT2 hT2l hil hx hlf1 hlf2 hg hEN hsp3 hc H2 HIS HSL hNt
    go_wp2_with fail
    refine (H1.out).mono ?_
    rintro e w' ⟨rfl, rfl⟩
    go_wp2_with fail
    go_ret
    exact ⟨rfl, rfl⟩
  | true =>
    rw [hc] at H1
    obtain ⟨hjl, i', left', hP'⟩ := HP.out.step HOK.out HALL.out HI0.out hx hc
    obtain ⟨N2, hN2⟩ : ∃ N2, N + left = N2 := ⟨_, rfl⟩
    rw [hN2] at hP'
    have hN2t : N2 ≤ tot := by have := hP'.sm; omega
    have f5 : IntKind.u64.wrap ((N : Int) + (left : Int)) = (N2 : Int) := by rw [IntKind.wrap_u64]; omega
    have HP2 := Lib.hid hP'
    have HJL := Lib.hid hjl
    have H1 := Lib.hid H1
    clear hTN hsp hT2 hT2l hil hx hlf1 hlf2 hg hEN hsp3 hc hP' hN2 hN2t hNt hjl
    go_wp2_with fail
    refine (H1.out).mono ?_
    rintro e w' ⟨rfl, rfl⟩
    go_wp2_with fail
    refine (H2.out).mono ?_
    rintro e w' ⟨rfl, rfl⟩
    go_wp2_with fail
    refine (HRD.out).mono ?_
    rintro e w' ⟨rfl, rfl⟩
    go_wp2_with fail
    go_roundg (n - j)
    case rel => exact ⟨j + 1, i', left', N2, by have := HJL.out; have := HN.out; omega, by first | rfl | go_num, rfl, HP2⟩
    case measure => have := HGK.out; omega
end Go.Proofs.YtdddfmdcjjbegaaGreat.Ref22
namespace Go.Proofs.YtdddfmdcjjbegaaGreat.Ref09
open Go.RowKit Go.Proofs BigFrame
abbrev TI : TypeId := 151
set_option maxHeartbeats 1000000
set_option maxRecDepth 1000000
theorem infoI : (Tryz.prog.info? TI).map (fun i => (i.zero, i.size, i.bytes)) = some (some (.agg #[.int .u64 0, .int .i64 0]), 2, 16) := by kernel_rfl
theorem keep_in {E : TypeId} {base n g off : Nat} {wB w3 : World} {v u : Value} {xs : List Value} {o : Obj} (hO : wB.ownsRow base E 2 v n xs) (hu : Upd (fun q => v.ownBlock = some q) (wB.alloc o) w3) (hg : g < base) (h : wB.cell? ⟨g, off, none⟩ = some u) : w3.cell? ⟨g, off, none⟩ = some u := by
 have h1 : (wB.alloc o).cell? ⟨g, off, none⟩ = some u := cell_old ((Upd.refl _ _).alloc o) h
 exact (hu.cell off (cell_lt h1) (fun e => absurd hg (Nat.not_lt.2 (hO.lt g e).1))).trans h1
theorem prow_form {E : TypeId} {base n : Nat} {w : World} {v : Value} {xs : List Value} (h : w.ownsRow base E 2 v (n + 1) xs) : ∃ ad c, v = .slice ad (n + 1) c := by
 rcases h.2 with ⟨_, h0⟩ | ⟨g, c, cur, rfl, _⟩
 · omega
 · exact ⟨_, c, rfl⟩
/-- A list that was made. -/
def Made (w w' : World) (v : Value) (l : List (Nat × Int)) : Prop := PRow TI w.heap.size w' v l ∧ Upd Nowhere w w'
theorem push_any {w : World} {v : Value} {base : Nat} {l : List (Nat × Int)} (h : PRow TI base w v l) (hl : l.length ≤ 4096) (r : Nat) (x : Int) :
 Calls Tryz.prog 56 #[v, .int .u64 r, .int .i64 x] w fun e w' => ∃ v', e = .returned v' ∧ Made w w' v' (insR (r, x) l) := by
 obtain ⟨i0, hi, hz0, hz1, hz2⟩ := info_parts infoI
 obtain ⟨ad, c, rfl⟩ := h.form
 obtain ⟨n, hn⟩ : ∃ n, l.length = n := ⟨_, rfl⟩
 obtain ⟨R, hR⟩ : ∃ R, insR (r, x) l = R := ⟨_, rfl⟩
 have hRl : R.length = n + 1 := by rw [← hR, insR_length, hn]
 rw [hR]
 have H0 := Lib.hid h
 have HN := Lib.hid hn
 have HRL := Lib.hid hRl
 have HR : Hid ([] ++ (if false then l.drop 0 else insR (r, x) (l.drop 0)) = R) := Lib.hid (by simpa using hR)
 rw [hn] at hl ⊢
 clear h hn hR hRl
 go_enter Tryz.func56, Tryz.ntmps56
 go_wp2_with fail
 go_loopw [7, 8, 9] (fun ov iv i wr => ∃ (k : Nat) (part : List (Nat × Int)) (inn : Bool), k ≤ n ∧ i = .int .i64 k ∧ iv = .bool inn ∧ PRow TI w.heap.size wr ov part ∧ Hid (part ++ (if inn then l.drop k else insR (r, x) (l.drop k)) = R) ∧ Upd Nowhere w wr) (fun _ _ i _ => n - (intOf i).toNat)
 case atStart => exact ⟨0, [], false, by omega, rfl, rfl, PRow.nil _ _ _, HR, Upd.refl _ _⟩
 case round =>
  obtain ⟨k, part, inn, hk, rfl, rfl, hP, HQ, hu⟩ := hrel
  obtain ⟨wB, rfl⟩ : ∃ x, x = wr := ⟨_, rfl⟩
  obtain ⟨ad2, c2, rfl⟩ := hP.form
  obtain ⟨pn, hpn⟩ : ∃ pn, part.length = pn := ⟨_, rfl⟩
  have hpl : pn ≤ n + 1 := by
   have h1 := congrArg List.length HQ.out
   rw [HRL.out, List.length_append] at h1
   omega
  have hown0 : wB.ownsRow w.heap.size TI 2 (.slice ad2 part.length c2) part.length (pcs part) := hP
  rw [hpn] at hown0 ⊢
  have HO := Lib.hid hown0
  have HPN := Lib.hid hpn
  have HU := Lib.hid hu
  clear hP hown0 hpn hu HR
  by_cases hlt : k < n
  · have hI : (k : Int) < n := by omega
    obtain ⟨a, ha⟩ : ∃ a, l[k]? = some a := ⟨l[k]'(by rw [HN.out]; exact hlt), by simp⟩
    have hdr : l.drop k = a :: l.drop (k + 1) := by
     have hkl : k < l.length := by rw [HN.out]; exact hlt
     rw [List.drop_eq_getElem_cons hkl]
     rw [List.getElem?_eq_getElem hkl] at ha
     rw [Option.some.inj ha]
    obtain ⟨g, cc, he, hg, b0, b1⟩ := H0.out.cell ha
    rw [HN.out] at he
    injection he with he1 he2 he3
    subst he1; subst he3
    clear he2
    obtain ⟨a0, a1⟩ := a
    have k0 : wB.cell? ⟨g, k * 2, none⟩ = some (.int .u64 (a0 : Nat)) := cell_old HU.out b0
    have k1 : wB.cell? ⟨g, k * 2 + 1, none⟩ = some (.int .i64 a1) := cell_old HU.out b1
    have HDR := Lib.hid hdr
    have hszB := HU.out.size
    clear b0 b1 ha hdr
    have hpn9 : pn ≤ 999999999 := by omega
    have hpn8 : pn + 1 ≤ 999999999 := by omega
    cases inn with
    | true =>
      go_wp2_with (at_builtin; refine wpList_push rfl _ _ 138 rfl w.heap.size TI i0 (.agg #[.int .u64 0, .int .i64 0]) 2 16 Tryz.underlying138 hi hz0 hz1 hz2 rfl (by decide) (by decide) (.slice ad2 pn c2) pn _ rfl (ownsRow_upd HO.out ((Upd.refl _ _).alloc _) (fun _ _ h => h)) wB.heap.size 1 [.int .u64 a0, .int .i64 a1] rfl rfl (new_cells wB #[.int .u64 a0, .int .i64 a1] _) (by simp [Value.oneCell']) hpn9 (by simp; omega) ?_; intro v3 w3 hown hu hno)
      have HM := Lib.hid (PRow.push (a0, a1) (by rw [HPN.out]) hown)
      have HU2 := Lib.hid (HU.out.trans ((((Upd.refl Nowhere wB).alloc _).any _).trans hu (fun _ _ h => h)) (fun q hq h => absurd hq (Nat.not_lt.2 (HO.out.lt q h).1)))
      clear hown hu hno
      go_wp2_with fail
      go_roundw
      case rel => exact ⟨k + 1, _, true, by omega, by go_num, rfl, HM.out, Lib.hid (by rw [← HQ.out, HDR.out]; simp), HU2.out⟩
      case measure => simp [intOf]; omega
    | false =>
      by_cases hlt2 : r < a0
      · have d1 : decide (r < a0) = true := decide_eq_true hlt2
        go_wp2_with (at_builtin; first | (refine wpList_push rfl _ _ 138 rfl w.heap.size TI i0 (.agg #[.int .u64 0, .int .i64 0]) 2 16 Tryz.underlying138 hi hz0 hz1 hz2 rfl (by decide) (by decide) (.slice ad2 pn c2) pn _ rfl (ownsRow_upd HO.out ((Upd.refl _ _).alloc _) (fun _ _ h => h)) wB.heap.size 1 [.int .u64 r, .int .i64 x] rfl rfl (new_cells wB #[.int .u64 r, .int .i64 x] _) (by simp [Value.oneCell']) hpn9 (by simp; omega) ?_; intro v3 w3 hown hu hno; have k0x := keep_in HO.out hu hg k0; have k1x := keep_in HO.out hu hg k1; have hM3 := Lib.hid (PRow.push (r, x) (by rw [HPN.out]) hown); have HO3 := Lib.hid hown; have HU3 := Lib.hid (HU.out.trans ((((Upd.refl Nowhere wB).alloc _).any _).trans hu (fun _ _ h => h)) (fun q hq h => absurd hq (Nat.not_lt.2 (HO.out.lt q h).1))); have hsz3 := HU3.out.size; obtain ⟨ad3, c3, rfl⟩ := prow_form hown; clear hown hu hno) | (refine wpList_push rfl _ _ 138 rfl w.heap.size TI i0 (.agg #[.int .u64 0, .int .i64 0]) 2 16 Tryz.underlying138 hi hz0 hz1 hz2 rfl (by decide) (by decide) (.slice ad3 (pn + 1) c3) (pn + 1) _ rfl (ownsRow_upd HO3.out ((Upd.refl _ _).alloc _) (fun _ _ h => h)) w3.heap.size 1 [.int .u64 a0, .int .i64 a1] rfl rfl (new_cells w3 #[.int .u64 a0, .int .i64 a1] _) (by simp [Value.oneCell']) hpn8 (by simp; omega) ?_; intro v4 w4 hown hu hno))
        have HM := Lib.hid (PRow.push (l := part ++ [(r, x)]) (a0, a1) (by rw [List.length_append, HPN.out]) (by rw [pcs_append]; exact hown))
        have HU2 := Lib.hid (HU3.out.trans ((((Upd.refl Nowhere w3).alloc _).any _).trans hu (fun _ _ h => h)) (fun q hq h => absurd hq (Nat.not_lt.2 (HO3.out.lt q h).1)))
        clear hown hu hno
        go_wp2_with fail
        go_roundw
        case rel => exact ⟨k + 1, _, true, by omega, by go_num, rfl, HM.out, Lib.hid (by rw [← HQ.out, HDR.out]; simp [insR, hlt2]), HU2.out⟩
        case measure => simp [intOf]; omega
      · have d1 : decide (r < a0) = false := decide_eq_false hlt2
        go_wp2_with (at_builtin; refine wpList_push rfl _ _ 138 rfl w.heap.size TI i0 (.agg #[.int .u64 0, .int .i64 0]) 2 16 Tryz.underlying138 hi hz0 hz1 hz2 rfl (by decide) (by decide) (.slice ad2 pn c2) pn _ rfl (ownsRow_upd HO.out ((Upd.refl _ _).alloc _) (fun _ _ h => h)) wB.heap.size 1 [.int .u64 a0, .int .i64 a1] rfl rfl (new_cells wB #[.int .u64 a0, .int .i64 a1] _) (by simp [Value.oneCell']) hpn9 (by simp; omega) ?_; intro v3 w3 hown hu hno)
        have HM := Lib.hid (PRow.push (a0, a1) (by rw [HPN.out]) hown)
        have HU2 := Lib.hid (HU.out.trans ((((Upd.refl Nowhere wB).alloc _).any _).trans hu (fun _ _ h => h)) (fun q hq h => absurd hq (Nat.not_lt.2 (HO.out.lt q h).1)))
        clear hown hu hno
        go_wp2_with fail
        go_roundw
        case rel => exact ⟨k + 1, _, false, by omega, by go_num, rfl, HM.out, Lib.hid (by rw [← HQ.out, HDR.out]; simp [insR, hlt2]), HU2.out⟩
        case measure => simp [intOf]; omega
  · obtain rfl : n = k := by omega
    have hq := HQ.out
    rw [List.drop_eq_nil_of_le (by rw [HN.out]; exact Nat.le_refl _)] at hq
    cases inn with
    | true =>
      rw [if_pos rfl, List.append_nil] at hq
      subst hq
      go_wp2_with fail
      go_ret
      exact ⟨_, rfl, by have := HO.out; rw [← HPN.out] at this ⊢; exact this, HU.out⟩
    | false =>
      rw [if_neg (by simp)] at hq
      subst hq
      have hpn9 : pn ≤ 999999999 := by omega
      have hszB := HU.out.size
      go_wp2_with (at_builtin; refine wpList_push rfl _ _ 138 rfl w.heap.size TI i0 (.agg #[.int .u64 0, .int .i64 0]) 2 16 Tryz.underlying138 hi hz0 hz1 hz2 rfl (by decide) (by decide) (.slice ad2 pn c2) pn _ rfl (ownsRow_upd HO.out ((Upd.refl _ _).alloc _) (fun _ _ h => h)) wB.heap.size 1 [.int .u64 r, .int .i64 x] rfl rfl (new_cells wB #[.int .u64 r, .int .i64 x] _) (by simp [Value.oneCell']) hpn9 (by simp; omega) ?_; intro v3 w3 hown hu hno)
      have hM := Lib.hid (PRow.push (r, x) (by rw [HPN.out]) hown)
      have HU2 := Lib.hid (HU.out.trans ((((Upd.refl Nowhere wB).alloc _).any _).trans hu (fun _ _ h => h)) (fun q hq h => (HO.out.lt q h).1 |> fun h2 => absurd hq (Nat.not_lt.2 h2)))
      clear hown hu hno
      go_wp2_with fail
      go_ret
      exact ⟨_, rfl, hM.out, HU2.out⟩
theorem rest_any {w : World} {v : Value} {base : Nat} {l : List (Nat × Int)} (h : PRow TI base w v l) (hl : l.length ≤ 4097) :
 Calls Tryz.prog 58 #[v] w fun e w' => ∃ v', e = .returned v' ∧ Made w w' v' l.tail := by
 obtain ⟨i0, hi, hz0, hz1, hz2⟩ := info_parts infoI
 obtain ⟨ad, c, rfl⟩ := h.form
 obtain ⟨n, hn⟩ : ∃ n, l.length = n := ⟨_, rfl⟩
 obtain ⟨R, hR⟩ : ∃ R, l.tail = R := ⟨_, rfl⟩
 have hRl : R.length ≤ n := by rw [← hR, List.length_tail, hn]; omega
 rw [hR]
 have H0 := Lib.hid h
 have HN := Lib.hid hn
 have HRL := Lib.hid hRl
 have HR : Hid ([] ++ l.drop 1 = R) := Lib.hid (by rw [← hR]; simp)
 rw [hn] at hl ⊢
 clear h hn hR hRl
 go_enter Tryz.func58, Tryz.ntmps58
 go_wp2_with fail
 go_loopw [3, 4] (fun ov i wr => ∃ (k : Nat) (part : List (Nat × Int)), k ≤ n + 1 ∧ i = .int .i64 k ∧ PRow TI w.heap.size wr ov part ∧ Hid (part ++ l.drop k = R) ∧ Upd Nowhere w wr) (fun _ i _ => n - (intOf i).toNat)
 case atStart => exact ⟨1, [], by omega, rfl, PRow.nil _ _ _, HR, Upd.refl _ _⟩
 case round =>
  obtain ⟨k, part, hk, rfl, hP, HQ, hu⟩ := hrel
  obtain ⟨wB, rfl⟩ : ∃ x, x = wr := ⟨_, rfl⟩
  obtain ⟨ad2, c2, rfl⟩ := hP.form
  obtain ⟨pn, hpn⟩ : ∃ pn, part.length = pn := ⟨_, rfl⟩
  have hpl : pn ≤ n := by
   have h1 := congrArg List.length HQ.out
   have h2 := HRL.out
   rw [List.length_append] at h1
   omega
  have hown0 : wB.ownsRow w.heap.size TI 2 (.slice ad2 part.length c2) part.length (pcs part) := hP
  rw [hpn] at hown0 ⊢
  have HO := Lib.hid hown0
  have HPN := Lib.hid hpn
  have HU := Lib.hid hu
  clear hP hown0 hpn hu HR
  by_cases hlt : k < n
  · have hI : (k : Int) < n := by omega
    obtain ⟨a, ha⟩ : ∃ a, l[k]? = some a := ⟨l[k]'(by rw [HN.out]; exact hlt), by simp⟩
    have hdr : l.drop k = a :: l.drop (k + 1) := by
     have hkl : k < l.length := by rw [HN.out]; exact hlt
     rw [List.drop_eq_getElem_cons hkl]
     rw [List.getElem?_eq_getElem hkl] at ha
     rw [Option.some.inj ha]
    obtain ⟨g, cc, he, hg, b0, b1⟩ := H0.out.cell ha
    rw [HN.out] at he
    injection he with he1 he2 he3
    subst he1; subst he3
    clear he2
    obtain ⟨a0, a1⟩ := a
    have k0 : wB.cell? ⟨g, k * 2, none⟩ = some (.int .u64 (a0 : Nat)) := cell_old HU.out b0
    have k1 : wB.cell? ⟨g, k * 2 + 1, none⟩ = some (.int .i64 a1) := cell_old HU.out b1
    have HDR := Lib.hid hdr
    have hszB := HU.out.size
    clear b0 b1 ha hdr
    have hpn9 : pn ≤ 999999999 := by omega
    go_wp2_with (at_builtin; refine wpList_push rfl _ _ 138 rfl w.heap.size TI i0 (.agg #[.int .u64 0, .int .i64 0]) 2 16 Tryz.underlying138 hi hz0 hz1 hz2 rfl (by decide) (by decide) (.slice ad2 pn c2) pn _ rfl (ownsRow_upd HO.out ((Upd.refl _ _).alloc _) (fun _ _ h => h)) wB.heap.size 1 [.int .u64 a0, .int .i64 a1] rfl rfl (new_cells wB #[.int .u64 a0, .int .i64 a1] _) (by simp [Value.oneCell']) hpn9 (by simp; omega) ?_; intro v3 w3 hown hu hno)
    have HM := Lib.hid (PRow.push (a0, a1) (by rw [HPN.out]) hown)
    have HU2 := Lib.hid (HU.out.trans ((((Upd.refl Nowhere wB).alloc _).any _).trans hu (fun _ _ h => h)) (fun q hq h => absurd hq (Nat.not_lt.2 (HO.out.lt q h).1)))
    clear hown hu hno
    go_wp2_with fail
    go_roundw
    case rel => exact ⟨k + 1, _, by omega, by go_num, HM.out, Lib.hid (by rw [← HQ.out, HDR.out]; simp), HU2.out⟩
    case measure => simp [intOf]; omega
  · have hq := HQ.out
    rw [List.drop_eq_nil_of_le (by rw [HN.out]; omega), List.append_nil] at hq
    subst hq
    go_wp2_with fail
    go_ret
    exact ⟨_, rfl, by have := HO.out; rw [← HPN.out] at this ⊢; exact this, HU.out⟩
end Go.Proofs.YtdddfmdcjjbegaaGreat.Ref09
namespace Go.Proofs.YtdddfmdcjjbegaaGreat.Ref10
open Go.RowKit Go.Proofs BigFrame
open Ref09 (TI infoI push_any)
set_option maxHeartbeats 4000000
set_option maxRecDepth 1000000
set_option linter.unusedSimpArgs false
theorem last_any {w : World} {v : Value} {base : Nat} {t : List (Nat × Int)} {r : Nat} {x : Int} (h : PRow TI base w v (t ++ [(r, x)])) (hl : t.length ≤ 4096) :
 Calls Tryz.prog 89 #[v] w fun e w' => e = .returned (.tuple #[.int .u64 (r : Nat), .int .i64 x, .bool true]) ∧ Upd Nowhere w w' := by
 obtain ⟨g, c, rfl, hg, k0, k1⟩ := h.cell (i := t.length) (e := (r, x)) (by simp)
 rw [List.length_append] at *
 dsimp only [List.length_singleton] at *
 obtain ⟨m, hm⟩ : ∃ m, t.length = m := ⟨_, rfl⟩
 rw [hm] at k0 k1 hl ⊢
 obtain ⟨n, hn⟩ : ∃ n, m + 1 = n := ⟨_, rfl⟩
 rw [hn]
 have e1 : IntKind.i64.wrap ((n : Int) - 1) = (m : Int) := by rw [IntKind.wrap_i64]; omega
 have d0 : ((n : Int) == 0) = false := by simp; omega
 have hmn : (m : Int) < (n : Int) := by omega
 clear h hg hl hm hn
 go_enter Tryz.func89, Tryz.ntmps89
 go_upto_region 3 with fail
 refine wp_region_held_drew (S := fun w' => w'.cell? ⟨g, m * 2, none⟩ = some (.int .u64 (r : Nat)) ∧ w'.cell? ⟨g, m * 2 + 1, none⟩ = some (.int .i64 x)) (by kernel_rfl) ⟨k0, k1⟩ (fun hHeld => ?_)
 refine tkq 0 ?_
 refine tkq 1 ?_
 refine tkq 2 ?_
 refine tkq 3 ?_
 refine tkq 4 ?_
 refine tkq 5 ?_
 refine tkq 6 ?_
 refine tkq 7 ?_
 refine tkq 8 ?_
 refine tkq 9 ?_
 refine tkq 10 ?_
 refine tkq 11 ?_
 refine tkq 12 ?_
 refine tkq 13 ?_
 refine tkq 14 ?_
 refine tkq 15 ?_
 refine tkq 16 ?_
 refine wpAnyH_done (by kernel_rfl) ?_ _
 go_wp2_with fail
 go_ret3
 exact ⟨rfl, (Upd.refl _ _).drew⟩
theorem front_any {w : World} {v : Value} {base : Nat} {l : List (Nat × Int)} (h : PRow TI base w v l) (hl : l.length ≤ 4097) :
 Calls Tryz.prog 90 #[v] w fun e w' => ∃ v', e = .returned v' ∧ Ref09.Made w w' v' l.dropLast := by
 obtain ⟨i0, hi, hz0, hz1, hz2⟩ := info_parts infoI
 obtain ⟨ad, c, rfl⟩ := h.form
 obtain ⟨n, hn⟩ : ∃ n, l.length = n := ⟨_, rfl⟩
 obtain ⟨R, hR⟩ : ∃ R, l.dropLast = R := ⟨_, rfl⟩
 have hRl : R.length = n - 1 := by rw [← hR, List.length_dropLast, hn]
 rw [hR]
 have H0 := Lib.hid h
 have HN := Lib.hid hn
 have HRL := Lib.hid hRl
 have HRR := Lib.hid hR
 have HR : Hid ([] ++ R.drop 0 = R) := Lib.hid (by simp)
 rw [hn] at hl ⊢
 clear h hn hR hRl
 go_enter Tryz.func90, Tryz.ntmps90
 go_wp2_with fail
 go_loopw [3, 4] (fun ov i wr => ∃ (k : Nat) (part : List (Nat × Int)), k ≤ n ∧ i = .int .i64 k ∧ PRow TI w.heap.size wr ov part ∧ Hid (part ++ R.drop k = R) ∧ Upd Nowhere w wr) (fun _ i _ => n - (intOf i).toNat)
 case atStart => exact ⟨0, [], by omega, rfl, PRow.nil _ _ _, HR, Upd.refl _ _⟩
 case round =>
  obtain ⟨k, part, hk, rfl, hP, HQ, hu⟩ := hrel
  obtain ⟨wB, rfl⟩ : ∃ x, x = wr := ⟨_, rfl⟩
  obtain ⟨ad2, c2, rfl⟩ := hP.form
  obtain ⟨pn, hpn⟩ : ∃ pn, part.length = pn := ⟨_, rfl⟩
  have hpl : pn ≤ n := by
   have h1 := congrArg List.length HQ.out
   have h2 := HRL.out
   rw [List.length_append] at h1
   omega
  have hown0 : wB.ownsRow w.heap.size TI 2 (.slice ad2 part.length c2) part.length (pcs part) := hP
  rw [hpn] at hown0 ⊢
  have HO := Lib.hid hown0
  have HPN := Lib.hid hpn
  have HU := Lib.hid hu
  clear hP hown0 hpn hu HR
  obtain ⟨k1n, hk1⟩ : ∃ y, k + 1 = y := ⟨_, rfl⟩
  have e1 : IntKind.i64.wrap ((k : Int) + 1) = (k1n : Int) := by rw [IntKind.wrap_i64]; omega
  have HK1 := Lib.hid hk1
  clear hk1
  by_cases hlt : k + 1 < n
  · have hI : (k1n : Int) < n := by have := HK1.out; omega
    have dI : decide (k1n < n) = true := decide_eq_true (by have := HK1.out; omega)
    have hkI : (k : Int) < (n : Int) := by omega
    obtain ⟨a, ha⟩ : ∃ a, R[k]? = some a := ⟨R[k]'(by rw [HRL.out]; omega), by simp⟩
    have hla : l[k]? = some a := by rw [← HRR.out, List.getElem?_dropLast] at ha; split at ha; exact ha; cases ha
    have hdr : R.drop k = a :: R.drop (k + 1) := by
     have hkl : k < R.length := by rw [HRL.out]; omega
     rw [List.drop_eq_getElem_cons hkl]
     rw [List.getElem?_eq_getElem hkl] at ha
     rw [Option.some.inj ha]
    obtain ⟨g, cc, he, hg, b0, b1⟩ := H0.out.cell hla
    rw [HN.out] at he
    injection he with he1 he2 he3
    subst he1; subst he3
    clear he2
    obtain ⟨a0, a1⟩ := a
    have k0 : wB.cell? ⟨g, k * 2, none⟩ = some (.int .u64 (a0 : Nat)) := cell_old HU.out b0
    have k1 : wB.cell? ⟨g, k * 2 + 1, none⟩ = some (.int .i64 a1) := cell_old HU.out b1
    have HDR := Lib.hid hdr
    have hszB := HU.out.size
    have hklt : k + 1 < n := hlt
    have HKLT := Lib.hid hklt
    clear b0 b1 ha hdr hla hlt hklt
    have hpn9 : pn ≤ 999999999 := by omega
    go_wp2_with (at_builtin; refine wpList_push rfl _ _ 138 rfl w.heap.size TI i0 (.agg #[.int .u64 0, .int .i64 0]) 2 16 Tryz.underlying138 hi hz0 hz1 hz2 rfl (by decide) (by decide) (.slice ad2 pn c2) pn _ rfl (ownsRow_upd HO.out ((Upd.refl _ _).alloc _) (fun _ _ h => h)) wB.heap.size 1 [.int .u64 a0, .int .i64 a1] rfl rfl (new_cells wB #[.int .u64 a0, .int .i64 a1] _) (by simp [Value.oneCell']) hpn9 (by simp; omega) ?_; intro v3 w3 hown hu hno)
    have HM := Lib.hid (PRow.push (a0, a1) (by rw [HPN.out]) hown)
    have HU2 := Lib.hid (HU.out.trans ((((Upd.refl Nowhere wB).alloc _).any _).trans hu (fun _ _ h => h)) (fun q hq h => absurd hq (Nat.not_lt.2 (HO.out.lt q h).1)))
    clear hown hu hno
    go_wp2_with fail
    go_roundw
    case rel => exact ⟨k1n, _, by have := HKLT.out; have := HK1.out; omega, by first | rfl | go_num, HM.out, Lib.hid (by have h1 := HQ.out; rw [HDR.out] at h1; rw [← HK1.out]; simpa using h1), HU2.out⟩
    case measure => have := HK1.out; simp [intOf]; omega
  · have hI : ¬ ((k1n : Int) < n) := by have := HK1.out; omega
    have dI : decide (k1n < n) = false := decide_eq_false (by have := HK1.out; omega)
    have dI2 : decide ((k1n : Int) < (n : Int)) = false := decide_eq_false hI
    have hq := HQ.out
    rw [List.drop_eq_nil_of_le (by rw [HRL.out]; omega), List.append_nil] at hq
    subst hq
    clear hI
    go_wp2_with fail
    go_ret
    exact ⟨_, rfl, by have := HO.out; rw [← HPN.out] at this ⊢; exact this, HU.out⟩
theorem sq_room {w : World} {v : Value} {base room : Nat} {l : List (Nat × Int)} (h : PRow TI base w v l) (hl : l.length < room) (hr : room ≤ 4096) (rank : Nat) (x : Int) :
 Calls Tryz.prog 55 #[v, .int .i64 room, .int .u64 rank, .int .i64 x] w fun e w' => ∃ v', e = .returned (.tuple #[v', .int .i64 0, .bool false]) ∧ Ref09.Made w w' v' (insR (rank, x) l) := by
 have HP := Lib.hid (push_any h (by omega) rank x)
 obtain ⟨ad, c, rfl⟩ := h.form
 obtain ⟨n, hn⟩ : ∃ n, l.length = n := ⟨_, rfl⟩
 rw [hn] at HP hl ⊢
 have hI : (n : Int) < (room : Int) := by omega
 have dI : decide (n < room) = true := decide_eq_true hl
 clear h hn hl hr
 go_enter Tryz.func55, Tryz.ntmps55
 go_wp2_with fail
 refine (HP.out).mono ?_
 rintro e w2 ⟨v2, rfl, hM⟩
 go_wp2_with fail
 go_ret3
 exact ⟨_, rfl, hM⟩
theorem sq_self {w : World} {v : Value} {base room r : Nat} {y : Int} {t : List (Nat × Int)} (h : PRow TI base w v (t ++ [(r, y)])) (hl : room ≤ t.length + 1) (hr : t.length ≤ 4095) (rank : Nat) (x : Int) (hrk : r ≤ rank) :
 Calls Tryz.prog 55 #[v, .int .i64 room, .int .u64 rank, .int .i64 x] w fun e w' => e = .returned (.tuple #[v, .int .i64 x, .bool true]) ∧ Upd Nowhere w w' := by
 have HL := Lib.hid (last_any h (by omega))
 obtain ⟨ad, c, rfl⟩ := h.form
 obtain ⟨n, hn⟩ : ∃ n, (t ++ [(r, y)]).length = n := ⟨_, rfl⟩
 have hn2 : t.length + 1 = n := by rw [← hn]; simp
 rw [hn] at HL ⊢
 have dI : decide (n < room) = false := decide_eq_false (by omega)
 have dI2 : decide ((n : Int) < (room : Int)) = false := decide_eq_false (by omega)
 have d1 : decide (r ≤ rank) = true := decide_eq_true hrk
 have d2 : decide ((r : Int) ≤ (rank : Int)) = true := decide_eq_true (by omega)
 clear h hn hn2 hl hr hrk
 go_enter Tryz.func55, Tryz.ntmps55
 go_wp2_with fail
 refine (HL.out).mono ?_
 rintro e w2 ⟨rfl, u2⟩
 go_wp2_with fail
 go_ret3
 exact ⟨rfl, u2⟩
theorem sq_out {w : World} {v : Value} {base room r : Nat} {y : Int} {t : List (Nat × Int)} (h : PRow TI base w v (t ++ [(r, y)])) (hl : room ≤ t.length + 1) (hr : t.length ≤ 4095) (rank : Nat) (x : Int) (hrk : rank < r) :
 Calls Tryz.prog 55 #[v, .int .i64 room, .int .u64 rank, .int .i64 x] w fun e w' => ∃ v', e = .returned (.tuple #[v', .int .i64 y, .bool true]) ∧ ∃ w2, Upd Nowhere w w2 ∧ Ref09.Made w2 w' v' (insR (rank, x) t) := by
 have HL := Lib.hid (last_any h (by omega))
 have HF := fun u (hu : Upd Nowhere w u) => Lib.hid (front_any (ownsRow_upd h hu (fun _ _ h => h)) (by simp; omega))
 simp only [List.dropLast_concat] at HF
 have HPU := fun u v2 (hP : PRow TI w.heap.size u v2 t) => Lib.hid (push_any hP (by omega) rank x)
 have HPU2 := fun b u v2 (hP : PRow TI b u v2 t) => Lib.hid (push_any hP (by omega) rank x)
 obtain ⟨ad, c, rfl⟩ := h.form
 obtain ⟨n, hn⟩ : ∃ n, (t ++ [(r, y)]).length = n := ⟨_, rfl⟩
 have hn2 : t.length + 1 = n := by rw [← hn]; simp
 rw [hn] at HL ⊢
 simp only [hn] at HF
 have dI : decide (n < room) = false := decide_eq_false (by omega)
 have dI2 : decide ((n : Int) < (room : Int)) = false := decide_eq_false (by omega)
 have d1 : decide (r ≤ rank) = false := decide_eq_false (by omega)
 have d2 : decide ((r : Int) ≤ (rank : Int)) = false := decide_eq_false (by omega)
 clear h hn hn2 hl hr hrk HPU
 go_enter Tryz.func55, Tryz.ntmps55
 go_wp2_with fail
 refine (HL.out).mono ?_
 rintro e w2 ⟨rfl, u2⟩
 go_wp2_with fail
 refine ((HF _ u2).out).mono ?_
 rintro e w3 ⟨v3, rfl, hM3⟩
 go_wp2_with fail
 refine ((HPU2 _ _ _ hM3.1).out).mono ?_
 rintro e w4 ⟨v4, rfl, hM4⟩
 have HU := Lib.hid (u2.trans hM3.2 (fun _ _ h => h))
 clear u2 hM3
 go_wp2_with fail
 go_ret3
 exact ⟨_, rfl, _, HU.out, hM4⟩
end Go.Proofs.YtdddfmdcjjbegaaGreat.Ref10

