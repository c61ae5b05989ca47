/- Red, Red2, Red3, one behind the other. -/
import Derived.Test.YtdddfmdcjjbegaaGreatMeRoot
import Derived.Test.YtdddfmdcjjbegaaGreatMeA
import Derived.BigRegion
namespace Go.Proofs.YtdddfmdcjjbegaaGreat.Red
open Go.RowKit Go.Proofs BigFrame
open Wide (Gives)
open Bits (sat_add wrapN mulN)
open Root (slo fol)
set_option maxHeartbeats 2000000
set_option maxRecDepth 100000
/-- Whether a configuration may be. -/
def ok (A B P : Nat) (s : Int) : Prop := A < B ∧ B ≤ 1099511627776 ∧ 1 ≤ P ∧ P ≤ 65536 ∧ 0 ≤ s ∧ s ≤ 16
instance (A B P : Nat) (s : Int) : Decidable (ok A B P s) := by unfold ok; infer_instance
/-- How many parts. -/
def pt (A B P q : Nat) : Nat := P * (q - A) / (B - A)
/-- A step of a mean, and a count; whether a packet is let go. -/
def rs (A B P : Nat) (s : Int) (m c x : Nat) : (Nat × Nat) × Bool :=
 if ok A B P s then
  if fol m x (slo s) / 2 ^ slo s < A then ((fol m x (slo s), 0), false)
  else if B ≤ fol m x (slo s) / 2 ^ slo s then ((fol m x (slo s), 0), true)
  else if min (min (c + 1) 18446744073709551615 * pt A B P (fol m x (slo s) / 2 ^ slo s)) 18446744073709551615 < 65536 then ((fol m x (slo s), min (c + 1) 18446744073709551615), false)
  else ((fol m x (slo s), 0), true)
 else ((m, c), false)
theorem fol_le (m x s : Nat) : fol m x s ≤ 18446744073709551615 := Nat.min_le_right _ _
theorem pt_lt {A B P q : Nat} (hP : P ≤ 65536) (hq : q < B) (hA : A < B) : pt A B P q ≤ 65536 := by
 unfold pt
 have h1 : P * (q - A) ≤ 65536 * (B - A) := Nat.mul_le_mul hP (by omega)
 have h2 : 65536 * (B - A) / (B - A) = 65536 := Nat.mul_div_cancel _ (by omega)
 exact Nat.le_trans (Nat.div_le_div_right h1) (Nat.le_of_eq h2)
theorem pt_through {A B P q : Nat} (hP : P ≤ 65536) (hq : q < B) (hA : A < B) : Sat.through P (q - A) (B - A) = pt A B P q := by
 have h := pt_lt hP hq hA
 unfold Sat.through
 rw [if_neg (by omega)]
 unfold pt at *
 omega
theorem check_ok (A B P : Nat) (s : Int) (h : ok A B P s) (w : World) : Calls Tryz.prog 99 #[.agg #[.int .u64 A, .int .u64 B, .int .u64 P, .int .i64 s]] w fun e w' => Gives w (.int .i64 0) e w' := by
 obtain ⟨h1, h2, h3, h4, h5, h6⟩ := h
 have t0 : decide (B ≤ A) = false := decide_eq_false (by omega)
 have t1 : decide (A ≥ B) = false := decide_eq_false (by omega)
 have t2 : decide ((B : Int) > 1099511627776) = false := decide_eq_false (by omega)
 have t3 : decide (1099511627776 < (B : Int)) = false := decide_eq_false (by omega)
 have t4 : decide ((P : Int) < 1) = false := decide_eq_false (by omega)
 have t5 : decide ((P : Int) > 65536) = false := decide_eq_false (by omega)
 have t6 : decide (65536 < (P : Int)) = false := decide_eq_false (by omega)
 have t7 : decide (s < 0) = false := decide_eq_false (by omega)
 have t8 : decide (s > 16) = false := decide_eq_false (by omega)
 have t9 : decide (16 < s) = false := decide_eq_false (by omega)
 clear h1 h2 h3 h4 h5 h6
 go_enter Tryz.func99, Tryz.ntmps99
 go_wp2_with fail
 go_ret
 exact ⟨rfl, (Upd.refl _ _).alloc _⟩
theorem check_no (A B P : Nat) (s : Int) (h : ¬ok A B P s) (w : World) : Calls Tryz.prog 99 #[.agg #[.int .u64 A, .int .u64 B, .int .u64 P, .int .i64 s]] w fun e w' => Gives w (.int .i64 6) e w' := by
 unfold ok at h
 by_cases g0 : B ≤ A
 · have t0_0 : decide (B ≤ A) = true := decide_eq_true (by omega)
   have t0_1 : decide (A ≥ B) = true := decide_eq_true (by omega)
   clear h g0
   go_enter Tryz.func99, Tryz.ntmps99
   go_wp2_with fail
   go_ret
   exact ⟨rfl, (Upd.refl _ _).alloc _⟩
 have t0_0 : decide (B ≤ A) = false := decide_eq_false (by omega)
 have t0_1 : decide (A ≥ B) = false := decide_eq_false (by omega)
 by_cases g1 : 1099511627776 < B
 · have t1_0 : decide ((B : Int) > 1099511627776) = true := decide_eq_true (by omega)
   have t1_1 : decide (1099511627776 < (B : Int)) = true := decide_eq_true (by omega)
   clear h g0 g1
   go_enter Tryz.func99, Tryz.ntmps99
   go_wp2_with fail
   go_ret
   exact ⟨rfl, (Upd.refl _ _).alloc _⟩
 have t1_0 : decide ((B : Int) > 1099511627776) = false := decide_eq_false (by omega)
 have t1_1 : decide (1099511627776 < (B : Int)) = false := decide_eq_false (by omega)
 by_cases g2 : P < 1
 · have t2_0 : decide ((P : Int) < 1) = true := decide_eq_true (by omega)
   clear h g0 g1 g2
   go_enter Tryz.func99, Tryz.ntmps99
   go_wp2_with fail
   go_ret
   exact ⟨rfl, (Upd.refl _ _).alloc _⟩
 have t2_0 : decide ((P : Int) < 1) = false := decide_eq_false (by omega)
 by_cases g3 : 65536 < P
 · have t3_0 : decide ((P : Int) > 65536) = true := decide_eq_true (by omega)
   have t3_1 : decide (65536 < (P : Int)) = true := decide_eq_true (by omega)
   clear h g0 g1 g2 g3
   go_enter Tryz.func99, Tryz.ntmps99
   go_wp2_with fail
   go_ret
   exact ⟨rfl, (Upd.refl _ _).alloc _⟩
 have t3_0 : decide ((P : Int) > 65536) = false := decide_eq_false (by omega)
 have t3_1 : decide (65536 < (P : Int)) = false := decide_eq_false (by omega)
 by_cases g4 : s < 0
 · have t4_0 : decide (s < 0) = true := decide_eq_true (by omega)
   clear h g0 g1 g2 g3 g4
   go_enter Tryz.func99, Tryz.ntmps99
   go_wp2_with fail
   go_ret
   exact ⟨rfl, (Upd.refl _ _).alloc _⟩
 have t4_0 : decide (s < 0) = false := decide_eq_false (by omega)
 have g5 : 16 < s := by omega
 have t5_0 : decide (s > 16) = true := decide_eq_true (by omega)
 have t5_1 : decide (16 < s) = true := decide_eq_true (by omega)
 clear h g0 g1 g2 g3 g4 g5
 go_enter Tryz.func99, Tryz.ntmps99
 go_wp2_with fail
 go_ret
 exact ⟨rfl, (Upd.refl _ _).alloc _⟩

theorem may_ok (A B P : Nat) (s : Int) (h : ok A B P s) (w : World) : Calls Tryz.prog 80 #[.agg #[.int .u64 A, .int .u64 B, .int .u64 P, .int .i64 s]] w fun e w' => Gives w (.bool true) e w' := by
 obtain ⟨h1, h2, h3, h4, h5, h6⟩ := h
 have t0 : decide (A < B) = true := decide_eq_true (by omega)
 have t1 : decide ((B : Int) ≤ 1099511627776) = true := decide_eq_true (by omega)
 have t2 : decide ((P : Int) ≥ 1) = true := decide_eq_true (by omega)
 have t3 : decide (1 ≤ (P : Int)) = true := decide_eq_true (by omega)
 have t4 : decide ((P : Int) ≤ 65536) = true := decide_eq_true (by omega)
 have t5 : decide (s ≥ 0) = true := decide_eq_true (by omega)
 have t6 : decide (0 ≤ s) = true := decide_eq_true (by omega)
 have t7 : decide (s ≤ 16) = true := decide_eq_true (by omega)
 clear h1 h2 h3 h4 h5 h6
 go_enter Tryz.func80, Tryz.ntmps80
 go_wp2_with fail
 go_ret
 exact ⟨rfl, (Upd.refl _ _).alloc _⟩
theorem may_no (A B P : Nat) (s : Int) (h : ¬ok A B P s) (w : World) : Calls Tryz.prog 80 #[.agg #[.int .u64 A, .int .u64 B, .int .u64 P, .int .i64 s]] w fun e w' => Gives w (.bool false) e w' := by
 unfold ok at h
 by_cases g0 : A < B
 case neg =>
  have t0_0 : decide (A < B) = false := decide_eq_false (by omega)
  clear h g0
  go_enter Tryz.func80, Tryz.ntmps80
  go_wp2_with fail
  go_ret
  exact ⟨rfl, (Upd.refl _ _).alloc _⟩
 have t0_0 : decide (A < B) = true := decide_eq_true (by omega)
 by_cases g1 : B ≤ 1099511627776
 case neg =>
  have t1_0 : decide ((B : Int) ≤ 1099511627776) = false := decide_eq_false (by omega)
  clear h g0 g1
  go_enter Tryz.func80, Tryz.ntmps80
  go_wp2_with fail
  go_ret
  exact ⟨rfl, (Upd.refl _ _).alloc _⟩
 have t1_0 : decide ((B : Int) ≤ 1099511627776) = true := decide_eq_true (by omega)
 by_cases g2 : 1 ≤ P
 case neg =>
  have t2_0 : decide ((P : Int) ≥ 1) = false := decide_eq_false (by omega)
  have t2_1 : decide (1 ≤ (P : Int)) = false := decide_eq_false (by omega)
  clear h g0 g1 g2
  go_enter Tryz.func80, Tryz.ntmps80
  go_wp2_with fail
  go_ret
  exact ⟨rfl, (Upd.refl _ _).alloc _⟩
 have t2_0 : decide ((P : Int) ≥ 1) = true := decide_eq_true (by omega)
 have t2_1 : decide (1 ≤ (P : Int)) = true := decide_eq_true (by omega)
 by_cases g3 : P ≤ 65536
 case neg =>
  have t3_0 : decide ((P : Int) ≤ 65536) = false := decide_eq_false (by omega)
  clear h g0 g1 g2 g3
  go_enter Tryz.func80, Tryz.ntmps80
  go_wp2_with fail
  go_ret
  exact ⟨rfl, (Upd.refl _ _).alloc _⟩
 have t3_0 : decide ((P : Int) ≤ 65536) = true := decide_eq_true (by omega)
 by_cases g4 : 0 ≤ s
 case neg =>
  have t4_0 : decide (s ≥ 0) = false := decide_eq_false (by omega)
  have t4_1 : decide (0 ≤ s) = false := decide_eq_false (by omega)
  clear h g0 g1 g2 g3 g4
  go_enter Tryz.func80, Tryz.ntmps80
  go_wp2_with fail
  go_ret
  exact ⟨rfl, (Upd.refl _ _).alloc _⟩
 have t4_0 : decide (s ≥ 0) = true := decide_eq_true (by omega)
 have t4_1 : decide (0 ≤ s) = true := decide_eq_true (by omega)
 have g5 : ¬s ≤ 16 := by omega
 have t5_0 : decide (s ≤ 16) = false := decide_eq_false (by omega)
 clear h g0 g1 g2 g3 g4 g5
 go_enter Tryz.func80, Tryz.ntmps80
 go_wp2_with fail
 go_ret
 exact ⟨rfl, (Upd.refl _ _).alloc _⟩

end Go.Proofs.YtdddfmdcjjbegaaGreat.Red
namespace Go.Proofs.YtdddfmdcjjbegaaGreat.Red
open Go.RowKit Go.Proofs BigFrame
open Wide (Gives)
open Bits (sat_add wrapN mulN)
open Root (slo fol)
set_option maxHeartbeats 2000000
set_option maxRecDepth 100000
theorem s_no (A B P m c x : Nat) (s : Int) (h : ¬ok A B P s) (w : World) : Calls Tryz.prog 68 #[.agg #[.int .u64 A, .int .u64 B, .int .u64 P, .int .i64 s], .agg #[.int .u64 m, .int .u64 c], .int .u64 x] w fun e w' => Gives w (.tuple #[.agg #[.int .u64 m, .int .u64 c], .bool false]) e w' := by
 have H1 := fun u => Lib.hid (check_no A B P s h u)
 clear h
 go_enter Tryz.func68, Tryz.ntmps68
 go_wp2_with fail
 refine ((H1 _).out).mono ?_
 rintro e w1 ⟨rfl, u1⟩
 have hB_c1 : Blk w1 (w.heap.size) #[.int .u64 A, .int .u64 B, .int .u64 P, .int .i64 s] 76 := (((Blk.new _ _ _).alloc _).alloc _).kept u1 id
 have hB_s1 : Blk w1 (w.heap.size + 1) #[.int .u64 m, .int .u64 c] 90 := ((Blk.new2 _ _ _ _).alloc _).kept u1 id
 have hB_r1 : Blk w1 (w.heap.size + 1 + 1) #[.int .u64 0, .int .u64 0] 90 := (Blk.new3 _ _ _ _ _).kept u1 id
 have hU1 : Upd Nowhere w w1 := ((((Upd.refl _ _).alloc _).alloc _).alloc _).trans u1 (fun _ _ h => h)
 obtain ⟨c_c0, c_c1, c_c2, c_c3, z_c0, z_c1, z_c2, z_c3⟩ := cells4 (hB_c1)
 obtain ⟨c_s0, c_s1, z_s0, z_s1⟩ := cells2 (hB_s1)
 obtain ⟨c_r0, c_r1, z_r0, z_r1⟩ := cells2 (hB_r1)
 have l_c1 := hB_c1.lt
 have l_s1 := hB_s1.lt
 have l_r1 := hB_r1.lt
 go_wp2_with fail
 exact bodyPost_ret (v := .tuple #[.agg #[.int .u64 m, .int .u64 c], .bool false]) (by simp [results, Tryz.results68, go_sem, c_r0, c_r1]) rfl ⟨rfl, by repeat (first | with_reducible exact hU1 | with_reducible refine Upd.setNew ?_ (by first | (simp; done) | (dsimp only; omega)) _ | with_reducible refine Upd.drewN ?_ _ | with_reducible refine Upd.drew ?_ | with_reducible refine Upd.alloc ?_ _)⟩
theorem s_low (A B P m c x : Nat) (s : Int) (h : ok A B P s) (hm : m ≤ 18446744073709551615) (hx : x ≤ 18446744073709551615) (hq : fol m x (slo s) / 2 ^ slo s < A) (w : World) : Calls Tryz.prog 68 #[.agg #[.int .u64 A, .int .u64 B, .int .u64 P, .int .i64 s], .agg #[.int .u64 m, .int .u64 c], .int .u64 x] w fun e w' => Gives w (.tuple #[.agg #[.int .u64 (fol m x (slo s) : Nat), .int .u64 0], .bool false]) e w' := by
 have H1 := fun u => Lib.hid (check_ok A B P s h u)
 obtain ⟨k1, k2, k3, k4, k5, k6⟩ := h
 have H2 := fun u => Lib.hid (Root.follow_any m x s hm hx u)
 have H3 := fun u => Lib.hid (Root.mean_any (fol m x (slo s)) s u)
 generalize fol m x (slo s) / 2 ^ slo s = q at *
 generalize fol m x (slo s) = f at *
 have t0 : decide (q < A) = true := decide_eq_true (by omega)
 have t1 : decide (B ≤ q) = false := decide_eq_false (by omega)
 have t1' : decide (q ≥ B) = false := decide_eq_false (by omega)
 clear k1 k2 k3 k4 k5 k6 hm hx hq
 go_enter Tryz.func68, Tryz.ntmps68
 go_wp2_with fail
 refine ((H1 _).out).mono ?_
 rintro e w1 ⟨rfl, u1⟩
 have hB_c1 : Blk w1 (w.heap.size) #[.int .u64 A, .int .u64 B, .int .u64 P, .int .i64 s] 76 := (((Blk.new _ _ _).alloc _).alloc _).kept u1 id
 have hB_s1 : Blk w1 (w.heap.size + 1) #[.int .u64 m, .int .u64 c] 90 := ((Blk.new2 _ _ _ _).alloc _).kept u1 id
 have hB_r1 : Blk w1 (w.heap.size + 1 + 1) #[.int .u64 0, .int .u64 0] 90 := (Blk.new3 _ _ _ _ _).kept u1 id
 have hU1 : Upd Nowhere w w1 := ((((Upd.refl _ _).alloc _).alloc _).alloc _).trans u1 (fun _ _ h => h)
 obtain ⟨c_c0, c_c1, c_c2, c_c3, z_c0, z_c1, z_c2, z_c3⟩ := cells4 (hB_c1)
 obtain ⟨c_s0, c_s1, z_s0, z_s1⟩ := cells2 (hB_s1)
 obtain ⟨c_r0, c_r1, z_r0, z_r1⟩ := cells2 (hB_r1)
 have l_c1 := hB_c1.lt
 have l_s1 := hB_s1.lt
 have l_r1 := hB_r1.lt
 go_wp2_with fail
 refine ((H2 _).out).mono ?_
 rintro e w' ⟨rfl, rfl⟩
 go_wp2_with fail
 refine ((H3 _).out).mono ?_
 rintro e w' ⟨rfl, rfl⟩
 go_wp2_with fail
 clear c_c0 c_c1 c_c2 c_c3 z_c0 z_c1 z_c2 z_c3
 clear c_s0 c_s1 z_s0 z_s1
 clear c_r0 c_r1 z_r0 z_r1
 have hB_c4 : Blk (((w1.setCell ⟨w.heap.size + 1, 0, none⟩ (.int .u64 f)).setCell ⟨w.heap.size + 1, 1, none⟩ (.int .u64 0))) (w.heap.size) #[.int .u64 A, .int .u64 B, .int .u64 P, .int .i64 s] 76 := ((hB_c1).setOther (by first | (simp; done) | (dsimp only; omega)) _).setOther (by first | (simp; done) | (dsimp only; omega)) _
 have hB_s4 : Blk (((w1.setCell ⟨w.heap.size + 1, 0, none⟩ (.int .u64 f)).setCell ⟨w.heap.size + 1, 1, none⟩ (.int .u64 0))) (w.heap.size + 1) #[.int .u64 f, .int .u64 0] 90 := ((hB_s1).set 0 (.int .u64 f)).set 1 (.int .u64 0)
 have hB_r4 : Blk (((w1.setCell ⟨w.heap.size + 1, 0, none⟩ (.int .u64 f)).setCell ⟨w.heap.size + 1, 1, none⟩ (.int .u64 0))) (w.heap.size + 1 + 1) #[.int .u64 0, .int .u64 0] 90 := ((hB_r1).setOther (by first | (simp; done) | (dsimp only; omega)) _).setOther (by first | (simp; done) | (dsimp only; omega)) _
 have hU4 : Upd Nowhere w (((w1.setCell ⟨w.heap.size + 1, 0, none⟩ (.int .u64 f)).setCell ⟨w.heap.size + 1, 1, none⟩ (.int .u64 0))) := ((hU1).setNew (by first | (simp; done) | (dsimp only; omega)) _).setNew (by first | (simp; done) | (dsimp only; omega)) _
 generalize ((w1.setCell ⟨w.heap.size + 1, 0, none⟩ (.int .u64 f)).setCell ⟨w.heap.size + 1, 1, none⟩ (.int .u64 0)) = w4 at *
 clear u1
 obtain ⟨c_c0, c_c1, c_c2, c_c3, z_c0, z_c1, z_c2, z_c3⟩ := cells4 (hB_c4)
 obtain ⟨c_s0, c_s1, z_s0, z_s1⟩ := cells2 (hB_s4)
 obtain ⟨c_r0, c_r1, z_r0, z_r1⟩ := cells2 (hB_r4)
 have l_c4 := hB_c4.lt
 have l_s4 := hB_s4.lt
 have l_r4 := hB_r4.lt
 clear l_c1 l_s1 l_r1
 have ne_sr : ¬ w.heap.size + 1 = w.heap.size + 1 + 1 := by omega
 have ne_rs : ¬ w.heap.size + 1 + 1 = w.heap.size + 1 := by omega
 go_region
 all_goals
  go_wp2_with fail
  exact bodyPost_ret (v := .tuple #[.agg #[.int .u64 f, .int .u64 0], .bool false]) (by simp [results, Tryz.results68, go_sem, c_r0, c_r1]) rfl ⟨rfl, by repeat (first | with_reducible exact hU4 | with_reducible refine Upd.setNew ?_ (by first | (simp; done) | (dsimp only; omega)) _ | with_reducible refine Upd.drewN ?_ _ | with_reducible refine Upd.drew ?_ | with_reducible refine Upd.alloc ?_ _)⟩
theorem s_high (A B P m c x : Nat) (s : Int) (h : ok A B P s) (hm : m ≤ 18446744073709551615) (hx : x ≤ 18446744073709551615) (hq : B ≤ fol m x (slo s) / 2 ^ slo s) (w : World) : Calls Tryz.prog 68 #[.agg #[.int .u64 A, .int .u64 B, .int .u64 P, .int .i64 s], .agg #[.int .u64 m, .int .u64 c], .int .u64 x] w fun e w' => Gives w (.tuple #[.agg #[.int .u64 (fol m x (slo s) : Nat), .int .u64 0], .bool true]) e w' := by
 have H1 := fun u => Lib.hid (check_ok A B P s h u)
 obtain ⟨k1, k2, k3, k4, k5, k6⟩ := h
 have H2 := fun u => Lib.hid (Root.follow_any m x s hm hx u)
 have H3 := fun u => Lib.hid (Root.mean_any (fol m x (slo s)) s u)
 generalize fol m x (slo s) / 2 ^ slo s = q at *
 generalize fol m x (slo s) = f at *
 have t0 : decide (q < A) = false := decide_eq_false (by omega)
 have t1 : decide (B ≤ q) = true := decide_eq_true (by omega)
 have t1' : decide (q ≥ B) = true := decide_eq_true (by omega)
 clear k1 k2 k3 k4 k5 k6 hm hx hq
 go_enter Tryz.func68, Tryz.ntmps68
 go_wp2_with fail
 refine ((H1 _).out).mono ?_
 rintro e w1 ⟨rfl, u1⟩
 have hB_c1 : Blk w1 (w.heap.size) #[.int .u64 A, .int .u64 B, .int .u64 P, .int .i64 s] 76 := (((Blk.new _ _ _).alloc _).alloc _).kept u1 id
 have hB_s1 : Blk w1 (w.heap.size + 1) #[.int .u64 m, .int .u64 c] 90 := ((Blk.new2 _ _ _ _).alloc _).kept u1 id
 have hB_r1 : Blk w1 (w.heap.size + 1 + 1) #[.int .u64 0, .int .u64 0] 90 := (Blk.new3 _ _ _ _ _).kept u1 id
 have hU1 : Upd Nowhere w w1 := ((((Upd.refl _ _).alloc _).alloc _).alloc _).trans u1 (fun _ _ h => h)
 obtain ⟨c_c0, c_c1, c_c2, c_c3, z_c0, z_c1, z_c2, z_c3⟩ := cells4 (hB_c1)
 obtain ⟨c_s0, c_s1, z_s0, z_s1⟩ := cells2 (hB_s1)
 obtain ⟨c_r0, c_r1, z_r0, z_r1⟩ := cells2 (hB_r1)
 have l_c1 := hB_c1.lt
 have l_s1 := hB_s1.lt
 have l_r1 := hB_r1.lt
 go_wp2_with fail
 refine ((H2 _).out).mono ?_
 rintro e w' ⟨rfl, rfl⟩
 go_wp2_with fail
 refine ((H3 _).out).mono ?_
 rintro e w' ⟨rfl, rfl⟩
 go_wp2_with fail
 clear c_c0 c_c1 c_c2 c_c3 z_c0 z_c1 z_c2 z_c3
 clear c_s0 c_s1 z_s0 z_s1
 clear c_r0 c_r1 z_r0 z_r1
 have hB_c4 : Blk (((w1.setCell ⟨w.heap.size + 1, 0, none⟩ (.int .u64 f)).setCell ⟨w.heap.size + 1, 1, none⟩ (.int .u64 0))) (w.heap.size) #[.int .u64 A, .int .u64 B, .int .u64 P, .int .i64 s] 76 := ((hB_c1).setOther (by first | (simp; done) | (dsimp only; omega)) _).setOther (by first | (simp; done) | (dsimp only; omega)) _
 have hB_s4 : Blk (((w1.setCell ⟨w.heap.size + 1, 0, none⟩ (.int .u64 f)).setCell ⟨w.heap.size + 1, 1, none⟩ (.int .u64 0))) (w.heap.size + 1) #[.int .u64 f, .int .u64 0] 90 := ((hB_s1).set 0 (.int .u64 f)).set 1 (.int .u64 0)
 have hB_r4 : Blk (((w1.setCell ⟨w.heap.size + 1, 0, none⟩ (.int .u64 f)).setCell ⟨w.heap.size + 1, 1, none⟩ (.int .u64 0))) (w.heap.size + 1 + 1) #[.int .u64 0, .int .u64 0] 90 := ((hB_r1).setOther (by first | (simp; done) | (dsimp only; omega)) _).setOther (by first | (simp; done) | (dsimp only; omega)) _
 have hU4 : Upd Nowhere w (((w1.setCell ⟨w.heap.size + 1, 0, none⟩ (.int .u64 f)).setCell ⟨w.heap.size + 1, 1, none⟩ (.int .u64 0))) := ((hU1).setNew (by first | (simp; done) | (dsimp only; omega)) _).setNew (by first | (simp; done) | (dsimp only; omega)) _
 generalize ((w1.setCell ⟨w.heap.size + 1, 0, none⟩ (.int .u64 f)).setCell ⟨w.heap.size + 1, 1, none⟩ (.int .u64 0)) = w4 at *
 clear u1
 obtain ⟨c_c0, c_c1, c_c2, c_c3, z_c0, z_c1, z_c2, z_c3⟩ := cells4 (hB_c4)
 obtain ⟨c_s0, c_s1, z_s0, z_s1⟩ := cells2 (hB_s4)
 obtain ⟨c_r0, c_r1, z_r0, z_r1⟩ := cells2 (hB_r4)
 have l_c4 := hB_c4.lt
 have l_s4 := hB_s4.lt
 have l_r4 := hB_r4.lt
 clear l_c1 l_s1 l_r1
 have ne_sr : ¬ w.heap.size + 1 = w.heap.size + 1 + 1 := by omega
 have ne_rs : ¬ w.heap.size + 1 + 1 = w.heap.size + 1 := by omega
 go_region
 all_goals
  go_wp2_with fail
  exact bodyPost_ret (v := .tuple #[.agg #[.int .u64 f, .int .u64 0], .bool true]) (by simp [results, Tryz.results68, go_sem, c_r0, c_r1]) rfl ⟨rfl, by repeat (first | with_reducible exact hU4 | with_reducible refine Upd.setNew ?_ (by first | (simp; done) | (dsimp only; omega)) _ | with_reducible refine Upd.drewN ?_ _ | with_reducible refine Upd.drew ?_ | with_reducible refine Upd.alloc ?_ _)⟩
theorem s_few (A B P m c x : Nat) (s : Int) (h : ok A B P s) (hm : m ≤ 18446744073709551615) (hx : x ≤ 18446744073709551615) (hc : c ≤ 18446744073709551615) (hq1 : A ≤ fol m x (slo s) / 2 ^ slo s) (hq2 : fol m x (slo s) / 2 ^ slo s < B) (hp : min (min (c + 1) 18446744073709551615 * pt A B P (fol m x (slo s) / 2 ^ slo s)) 18446744073709551615 < 65536) (w : World) : Calls Tryz.prog 68 #[.agg #[.int .u64 A, .int .u64 B, .int .u64 P, .int .i64 s], .agg #[.int .u64 m, .int .u64 c], .int .u64 x] w fun e w' => Gives w (.tuple #[.agg #[.int .u64 (fol m x (slo s) : Nat), .int .u64 (min (c + 1) 18446744073709551615 : Nat)], .bool false]) e w' := by
 have H1 := fun u => Lib.hid (check_ok A B P s h u)
 obtain ⟨k1, k2, k3, k4, k5, k6⟩ := h
 have H2 := fun u => Lib.hid (Root.follow_any m x s hm hx u)
 have H3 := fun u => Lib.hid (Root.mean_any (fol m x (slo s)) s u)
 have H4 := fun u => Lib.hid (sat_add c 1 u hc (by omega))
 have h5 := fun u => Sat.sat_muldiv P (fol m x (slo s) / 2 ^ slo s - A) (B - A) (by omega) (by omega) (by omega) u
 rw [pt_through k4 hq2 k1] at h5
 have H5 := fun u => Lib.hid (h5 u)
 have hpt := pt_lt k4 hq2 k1
 have H6 := fun u => Lib.hid (Sat.sat_mul (min (c + 1) 18446744073709551615) (pt A B P (fol m x (slo s) / 2 ^ slo s)) (Nat.min_le_right _ _) (by omega) u)
 generalize min (min (c + 1) 18446744073709551615 * pt A B P (fol m x (slo s) / 2 ^ slo s)) 18446744073709551615 = z at *
 generalize pt A B P (fol m x (slo s) / 2 ^ slo s) = p at *
 generalize min (c + 1) 18446744073709551615 = n at *
 generalize fol m x (slo s) / 2 ^ slo s = q at *
 generalize fol m x (slo s) = f at *
 have e1 := Root.less_wrap q A (by omega) hq1
 have e2 := Root.less_wrap B A (by omega) (by omega)
 have t0 : decide (q < A) = false := decide_eq_false (by omega)
 have t1 : decide (B ≤ q) = false := decide_eq_false (by omega)
 have t1' : decide (q ≥ B) = false := decide_eq_false (by omega)
 have t2 : decide ((z : Int) < 65536) = true := decide_eq_true (by omega)
 generalize q - A = qa at *
 generalize B - A = ba at *
 clear k1 k2 k3 k4 k5 k6 hm hx hc hq1 hq2 hp hpt h5
 go_enter Tryz.func68, Tryz.ntmps68
 go_wp2_with fail
 refine ((H1 _).out).mono ?_
 rintro e w1 ⟨rfl, u1⟩
 have hB_c1 : Blk w1 (w.heap.size) #[.int .u64 A, .int .u64 B, .int .u64 P, .int .i64 s] 76 := (((Blk.new _ _ _).alloc _).alloc _).kept u1 id
 have hB_s1 : Blk w1 (w.heap.size + 1) #[.int .u64 m, .int .u64 c] 90 := ((Blk.new2 _ _ _ _).alloc _).kept u1 id
 have hB_r1 : Blk w1 (w.heap.size + 1 + 1) #[.int .u64 0, .int .u64 0] 90 := (Blk.new3 _ _ _ _ _).kept u1 id
 have hU1 : Upd Nowhere w w1 := ((((Upd.refl _ _).alloc _).alloc _).alloc _).trans u1 (fun _ _ h => h)
 obtain ⟨c_c0, c_c1, c_c2, c_c3, z_c0, z_c1, z_c2, z_c3⟩ := cells4 (hB_c1)
 obtain ⟨c_s0, c_s1, z_s0, z_s1⟩ := cells2 (hB_s1)
 obtain ⟨c_r0, c_r1, z_r0, z_r1⟩ := cells2 (hB_r1)
 have l_c1 := hB_c1.lt
 have l_s1 := hB_s1.lt
 have l_r1 := hB_r1.lt
 go_wp2_with fail
 refine ((H2 _).out).mono ?_
 rintro e w' ⟨rfl, rfl⟩
 go_wp2_with fail
 refine ((H3 _).out).mono ?_
 rintro e w' ⟨rfl, rfl⟩
 go_wp2_with fail
 refine ((H4 _).out).mono ?_
 rintro e w' ⟨rfl, rfl⟩
 go_wp2_with fail
 refine (H5 _).out.mono ?_
 rintro e w' ⟨rfl, kd, rfl⟩
 clear c_c0 c_c1 c_c2 c_c3 z_c0 z_c1 z_c2 z_c3
 clear c_s0 c_s1 z_s0 z_s1
 clear c_r0 c_r1 z_r0 z_r1
 have hB_c5 : Blk (((w1.setCell ⟨w.heap.size + 1, 0, none⟩ (.int .u64 f)).setCell ⟨w.heap.size + 1, 1, none⟩ (.int .u64 n)).drewN kd) (w.heap.size) #[.int .u64 A, .int .u64 B, .int .u64 P, .int .i64 s] 76 := (((hB_c1).setOther (by first | (simp; done) | (dsimp only; omega)) _).setOther (by first | (simp; done) | (dsimp only; omega)) _).drewN kd
 have hB_s5 : Blk (((w1.setCell ⟨w.heap.size + 1, 0, none⟩ (.int .u64 f)).setCell ⟨w.heap.size + 1, 1, none⟩ (.int .u64 n)).drewN kd) (w.heap.size + 1) #[.int .u64 f, .int .u64 n] 90 := (((hB_s1).set 0 (.int .u64 f)).set 1 (.int .u64 n)).drewN kd
 have hB_r5 : Blk (((w1.setCell ⟨w.heap.size + 1, 0, none⟩ (.int .u64 f)).setCell ⟨w.heap.size + 1, 1, none⟩ (.int .u64 n)).drewN kd) (w.heap.size + 1 + 1) #[.int .u64 0, .int .u64 0] 90 := (((hB_r1).setOther (by first | (simp; done) | (dsimp only; omega)) _).setOther (by first | (simp; done) | (dsimp only; omega)) _).drewN kd
 have hU5 : Upd Nowhere w (((w1.setCell ⟨w.heap.size + 1, 0, none⟩ (.int .u64 f)).setCell ⟨w.heap.size + 1, 1, none⟩ (.int .u64 n)).drewN kd) := (((hU1).setNew (by first | (simp; done) | (dsimp only; omega)) _).setNew (by first | (simp; done) | (dsimp only; omega)) _).drewN kd
 generalize ((w1.setCell ⟨w.heap.size + 1, 0, none⟩ (.int .u64 f)).setCell ⟨w.heap.size + 1, 1, none⟩ (.int .u64 n)).drewN kd = w5 at *
 clear u1
 obtain ⟨c_c0, c_c1, c_c2, c_c3, z_c0, z_c1, z_c2, z_c3⟩ := cells4 (hB_c5)
 obtain ⟨c_s0, c_s1, z_s0, z_s1⟩ := cells2 (hB_s5)
 obtain ⟨c_r0, c_r1, z_r0, z_r1⟩ := cells2 (hB_r5)
 have l_c5 := hB_c5.lt
 have l_s5 := hB_s5.lt
 have l_r5 := hB_r5.lt
 clear l_c1 l_s1 l_r1
 go_wp2_with fail
 refine ((H6 _).out).mono ?_
 rintro e w' ⟨rfl, rfl⟩
 go_wp2_with fail
 exact bodyPost_ret (v := .tuple #[.agg #[.int .u64 f, .int .u64 n], .bool false]) (by simp [results, Tryz.results68, go_sem, c_r0, c_r1]) rfl ⟨rfl, by repeat (first | with_reducible exact hU5 | with_reducible refine Upd.setNew ?_ (by first | (simp; done) | (dsimp only; omega)) _ | with_reducible refine Upd.drewN ?_ _ | with_reducible refine Upd.drew ?_ | with_reducible refine Upd.alloc ?_ _)⟩
theorem s_gone (A B P m c x : Nat) (s : Int) (h : ok A B P s) (hm : m ≤ 18446744073709551615) (hx : x ≤ 18446744073709551615) (hc : c ≤ 18446744073709551615) (hq1 : A ≤ fol m x (slo s) / 2 ^ slo s) (hq2 : fol m x (slo s) / 2 ^ slo s < B) (hp : 65536 ≤ min (min (c + 1) 18446744073709551615 * pt A B P (fol m x (slo s) / 2 ^ slo s)) 18446744073709551615) (w : World) : Calls Tryz.prog 68 #[.agg #[.int .u64 A, .int .u64 B, .int .u64 P, .int .i64 s], .agg #[.int .u64 m, .int .u64 c], .int .u64 x] w fun e w' => Gives w (.tuple #[.agg #[.int .u64 (fol m x (slo s) : Nat), .int .u64 0], .bool true]) e w' := by
 have H1 := fun u => Lib.hid (check_ok A B P s h u)
 obtain ⟨k1, k2, k3, k4, k5, k6⟩ := h
 have H2 := fun u => Lib.hid (Root.follow_any m x s hm hx u)
 have H3 := fun u => Lib.hid (Root.mean_any (fol m x (slo s)) s u)
 have H4 := fun u => Lib.hid (sat_add c 1 u hc (by omega))
 have h5 := fun u => Sat.sat_muldiv P (fol m x (slo s) / 2 ^ slo s - A) (B - A) (by omega) (by omega) (by omega) u
 rw [pt_through k4 hq2 k1] at h5
 have H5 := fun u => Lib.hid (h5 u)
 have hpt := pt_lt k4 hq2 k1
 have H6 := fun u => Lib.hid (Sat.sat_mul (min (c + 1) 18446744073709551615) (pt A B P (fol m x (slo s) / 2 ^ slo s)) (Nat.min_le_right _ _) (by omega) u)
 generalize min (min (c + 1) 18446744073709551615 * pt A B P (fol m x (slo s) / 2 ^ slo s)) 18446744073709551615 = z at *
 generalize pt A B P (fol m x (slo s) / 2 ^ slo s) = p at *
 generalize min (c + 1) 18446744073709551615 = n at *
 generalize fol m x (slo s) / 2 ^ slo s = q at *
 generalize fol m x (slo s) = f at *
 have e1 := Root.less_wrap q A (by omega) hq1
 have e2 := Root.less_wrap B A (by omega) (by omega)
 have t0 : decide (q < A) = false := decide_eq_false (by omega)
 have t1 : decide (B ≤ q) = false := decide_eq_false (by omega)
 have t1' : decide (q ≥ B) = false := decide_eq_false (by omega)
 have t2 : decide ((z : Int) < 65536) = false := decide_eq_false (by omega)
 generalize q - A = qa at *
 generalize B - A = ba at *
 clear k1 k2 k3 k4 k5 k6 hm hx hc hq1 hq2 hp hpt h5
 go_enter Tryz.func68, Tryz.ntmps68
 go_wp2_with fail
 refine ((H1 _).out).mono ?_
 rintro e w1 ⟨rfl, u1⟩
 have hB_c1 : Blk w1 (w.heap.size) #[.int .u64 A, .int .u64 B, .int .u64 P, .int .i64 s] 76 := (((Blk.new _ _ _).alloc _).alloc _).kept u1 id
 have hB_s1 : Blk w1 (w.heap.size + 1) #[.int .u64 m, .int .u64 c] 90 := ((Blk.new2 _ _ _ _).alloc _).kept u1 id
 have hB_r1 : Blk w1 (w.heap.size + 1 + 1) #[.int .u64 0, .int .u64 0] 90 := (Blk.new3 _ _ _ _ _).kept u1 id
 have hU1 : Upd Nowhere w w1 := ((((Upd.refl _ _).alloc _).alloc _).alloc _).trans u1 (fun _ _ h => h)
 obtain ⟨c_c0, c_c1, c_c2, c_c3, z_c0, z_c1, z_c2, z_c3⟩ := cells4 (hB_c1)
 obtain ⟨c_s0, c_s1, z_s0, z_s1⟩ := cells2 (hB_s1)
 obtain ⟨c_r0, c_r1, z_r0, z_r1⟩ := cells2 (hB_r1)
 have l_c1 := hB_c1.lt
 have l_s1 := hB_s1.lt
 have l_r1 := hB_r1.lt
 go_wp2_with fail
 refine ((H2 _).out).mono ?_
 rintro e w' ⟨rfl, rfl⟩
 go_wp2_with fail
 refine ((H3 _).out).mono ?_
 rintro e w' ⟨rfl, rfl⟩
 go_wp2_with fail
 refine ((H4 _).out).mono ?_
 rintro e w' ⟨rfl, rfl⟩
 go_wp2_with fail
 refine (H5 _).out.mono ?_
 rintro e w' ⟨rfl, kd, rfl⟩
 clear c_c0 c_c1 c_c2 c_c3 z_c0 z_c1 z_c2 z_c3
 clear c_s0 c_s1 z_s0 z_s1
 clear c_r0 c_r1 z_r0 z_r1
 have hB_c5 : Blk (((w1.setCell ⟨w.heap.size + 1, 0, none⟩ (.int .u64 f)).setCell ⟨w.heap.size + 1, 1, none⟩ (.int .u64 n)).drewN kd) (w.heap.size) #[.int .u64 A, .int .u64 B, .int .u64 P, .int .i64 s] 76 := (((hB_c1).setOther (by first | (simp; done) | (dsimp only; omega)) _).setOther (by first | (simp; done) | (dsimp only; omega)) _).drewN kd
 have hB_s5 : Blk (((w1.setCell ⟨w.heap.size + 1, 0, none⟩ (.int .u64 f)).setCell ⟨w.heap.size + 1, 1, none⟩ (.int .u64 n)).drewN kd) (w.heap.size + 1) #[.int .u64 f, .int .u64 n] 90 := (((hB_s1).set 0 (.int .u64 f)).set 1 (.int .u64 n)).drewN kd
 have hB_r5 : Blk (((w1.setCell ⟨w.heap.size + 1, 0, none⟩ (.int .u64 f)).setCell ⟨w.heap.size + 1, 1, none⟩ (.int .u64 n)).drewN kd) (w.heap.size + 1 + 1) #[.int .u64 0, .int .u64 0] 90 := (((hB_r1).setOther (by first | (simp; done) | (dsimp only; omega)) _).setOther (by first | (simp; done) | (dsimp only; omega)) _).drewN kd
 have hU5 : Upd Nowhere w (((w1.setCell ⟨w.heap.size + 1, 0, none⟩ (.int .u64 f)).setCell ⟨w.heap.size + 1, 1, none⟩ (.int .u64 n)).drewN kd) := (((hU1).setNew (by first | (simp; done) | (dsimp only; omega)) _).setNew (by first | (simp; done) | (dsimp only; omega)) _).drewN kd
 generalize ((w1.setCell ⟨w.heap.size + 1, 0, none⟩ (.int .u64 f)).setCell ⟨w.heap.size + 1, 1, none⟩ (.int .u64 n)).drewN kd = w5 at *
 clear u1
 obtain ⟨c_c0, c_c1, c_c2, c_c3, z_c0, z_c1, z_c2, z_c3⟩ := cells4 (hB_c5)
 obtain ⟨c_s0, c_s1, z_s0, z_s1⟩ := cells2 (hB_s5)
 obtain ⟨c_r0, c_r1, z_r0, z_r1⟩ := cells2 (hB_r5)
 have l_c5 := hB_c5.lt
 have l_s5 := hB_s5.lt
 have l_r5 := hB_r5.lt
 clear l_c1 l_s1 l_r1
 go_wp2_with fail
 refine ((H6 _).out).mono ?_
 rintro e w' ⟨rfl, rfl⟩
 go_wp2_with fail
 exact bodyPost_ret (v := .tuple #[.agg #[.int .u64 f, .int .u64 0], .bool true]) (by simp [results, Tryz.results68, go_sem, c_r0, c_r1]) rfl ⟨rfl, by repeat (first | with_reducible exact hU5 | with_reducible refine Upd.setNew ?_ (by first | (simp; done) | (dsimp only; omega)) _ | with_reducible refine Upd.drewN ?_ _ | with_reducible refine Upd.drew ?_ | with_reducible refine Upd.alloc ?_ _)⟩
end Go.Proofs.YtdddfmdcjjbegaaGreat.Red
namespace Go.Proofs.YtdddfmdcjjbegaaGreat.Red
open Go.RowKit Go.Proofs BigFrame
open Wide (Gives)
open Bits (sat_add wrapN mulN)
open Root (slo fol)
set_option maxHeartbeats 2000000
set_option maxRecDepth 100000
theorem rpt_any (A B P q : Nat) (s : Int) (h : ok A B P s) (hq1 : A ≤ q) (hq2 : q < B) (w : World) : Calls Tryz.prog 87 #[.agg #[.int .u64 A, .int .u64 B, .int .u64 P, .int .i64 s], .int .u64 q] w fun e w' => Gives w (.int .u64 (pt A B P q : Nat)) e w' := by
 obtain ⟨k1, k2, k3, k4, k5, k6⟩ := h
 have hpt := pt_lt k4 hq2 k1
 have e1 := Root.less_wrap q A (by omega) hq1
 have e2 := Root.less_wrap B A (by omega) (by omega)
 have hm : P * (q - A) ≤ 65536 * 1099511627776 := Nat.mul_le_mul k4 (by omega)
 have e3 : IntKind.u64.wrap ((P : Int) * ((q - A : Nat) : Int)) = ((P * (q - A) : Nat) : Int) := by rw [mulN]; exact wrapN _ (by omega)
 have e4 : ((P * (q - A) : Nat) : Int) / ((B - A : Nat) : Int) = ((pt A B P q : Nat) : Int) := rfl
 have e5 := wrapN (pt A B P q) (by omega)
 have e6 : (1 : Int) ≤ ((B - A : Nat) : Int) := by omega
 have e7 : (((B - A : Nat) : Int) == 0) = false := by simp; omega
 generalize pt A B P q = p at *
 generalize P * (q - A) = z at *
 generalize q - A = qa at *
 generalize B - A = ba at *
 clear k1 k2 k3 k4 k5 k6 hpt hm hq1 hq2
 go_enter Tryz.func87, Tryz.ntmps87
 go_wp2_with fail
 go_ret
 exact ⟨rfl, (Upd.refl _ _).alloc _⟩
theorem r_no (A B P m c x : Nat) (s : Int) (h : ¬ok A B P s) (w : World) : Calls Tryz.prog 52 #[.agg #[.int .u64 A, .int .u64 B, .int .u64 P, .int .i64 s], .int .u64 m, .int .u64 c, .int .u64 x] w fun e w' => Gives w (.tuple #[.int .u64 m, .int .u64 c, .bool false]) e w' := by
 have H1 := fun u => Lib.hid (may_no A B P s h u)
 clear h
 go_enter Tryz.func52, Tryz.ntmps52
 go_wp2_with fail
 refine ((H1 _).out).mono ?_
 rintro e w1 ⟨rfl, u1⟩
 have hB_c1 : Blk w1 (w.heap.size) #[.int .u64 A, .int .u64 B, .int .u64 P, .int .i64 s] 54 := (Blk.new _ _ _).kept u1 id
 have hU1 : Upd Nowhere w w1 := ((Upd.refl _ _).alloc _).trans u1 (fun _ _ h => h)
 obtain ⟨c_c0, c_c1, c_c2, c_c3, z_c0, z_c1, z_c2, z_c3⟩ := cells4 (hB_c1)
 have l_c1 := hB_c1.lt
 go_wp2_with fail
 go_ret3
 exact ⟨rfl, hU1⟩
theorem r_low (A B P m c x : Nat) (s : Int) (h : ok A B P s) (hm : m ≤ 18446744073709551615) (hx : x ≤ 18446744073709551615) (hq : fol m x (slo s) / 2 ^ slo s < A) (w : World) : Calls Tryz.prog 52 #[.agg #[.int .u64 A, .int .u64 B, .int .u64 P, .int .i64 s], .int .u64 m, .int .u64 c, .int .u64 x] w fun e w' => Gives w (.tuple #[.int .u64 (fol m x (slo s) : Nat), .int .u64 0, .bool false]) e w' := by
 have H1 := fun u => Lib.hid (may_ok A B P s h u)
 obtain ⟨k1, k2, k3, k4, k5, k6⟩ := id h
 have H2 := fun u => Lib.hid (Root.rfollow_any m x s hm hx u)
 have H3 := fun u => Lib.hid (Root.rmean_any (fol m x (slo s)) s (fol_le _ _ _) u)
 generalize fol m x (slo s) / 2 ^ slo s = q at *
 generalize fol m x (slo s) = f at *
 have t0 : decide (q < A) = true := decide_eq_true (by omega)
 clear h k1 k2 k3 k4 k5 k6 hm hx hq
 go_enter Tryz.func52, Tryz.ntmps52
 go_wp2_with fail
 refine ((H1 _).out).mono ?_
 rintro e w1 ⟨rfl, u1⟩
 have hB_c1 : Blk w1 (w.heap.size) #[.int .u64 A, .int .u64 B, .int .u64 P, .int .i64 s] 54 := (Blk.new _ _ _).kept u1 id
 have hU1 : Upd Nowhere w w1 := ((Upd.refl _ _).alloc _).trans u1 (fun _ _ h => h)
 obtain ⟨c_c0, c_c1, c_c2, c_c3, z_c0, z_c1, z_c2, z_c3⟩ := cells4 (hB_c1)
 have l_c1 := hB_c1.lt
 go_wp2_with fail
 refine ((H2 _).out).mono ?_
 rintro e w2 ⟨rfl, u2⟩
 clear c_c0 c_c1 c_c2 c_c3 z_c0 z_c1 z_c2 z_c3
 have hB_c2 : Blk w2 (w.heap.size) #[.int .u64 A, .int .u64 B, .int .u64 P, .int .i64 s] 54 := (hB_c1).kept u2 id
 have hU2 : Upd Nowhere w w2 := (hU1).trans u2 (fun _ _ h => h)
 clear u1
 obtain ⟨c_c0, c_c1, c_c2, c_c3, z_c0, z_c1, z_c2, z_c3⟩ := cells4 (hB_c2)
 have l_c2 := hB_c2.lt
 clear l_c1
 go_wp2_with fail
 refine ((H3 _).out).mono ?_
 rintro e w' ⟨rfl, rfl⟩
 go_wp2_with fail
 go_ret3
 exact ⟨rfl, hU2⟩
theorem r_high (A B P m c x : Nat) (s : Int) (h : ok A B P s) (hm : m ≤ 18446744073709551615) (hx : x ≤ 18446744073709551615) (hq : B ≤ fol m x (slo s) / 2 ^ slo s) (w : World) : Calls Tryz.prog 52 #[.agg #[.int .u64 A, .int .u64 B, .int .u64 P, .int .i64 s], .int .u64 m, .int .u64 c, .int .u64 x] w fun e w' => Gives w (.tuple #[.int .u64 (fol m x (slo s) : Nat), .int .u64 0, .bool true]) e w' := by
 have H1 := fun u => Lib.hid (may_ok A B P s h u)
 obtain ⟨k1, k2, k3, k4, k5, k6⟩ := id h
 have H2 := fun u => Lib.hid (Root.rfollow_any m x s hm hx u)
 have H3 := fun u => Lib.hid (Root.rmean_any (fol m x (slo s)) s (fol_le _ _ _) u)
 generalize fol m x (slo s) / 2 ^ slo s = q at *
 generalize fol m x (slo s) = f at *
 have t0 : decide (q < A) = false := decide_eq_false (by omega)
 have t1 : decide (B ≤ q) = true := decide_eq_true (by omega)
 have t2 : decide (q ≥ B) = true := decide_eq_true (by omega)
 clear h k1 k2 k3 k4 k5 k6 hm hx hq
 go_enter Tryz.func52, Tryz.ntmps52
 go_wp2_with fail
 refine ((H1 _).out).mono ?_
 rintro e w1 ⟨rfl, u1⟩
 have hB_c1 : Blk w1 (w.heap.size) #[.int .u64 A, .int .u64 B, .int .u64 P, .int .i64 s] 54 := (Blk.new _ _ _).kept u1 id
 have hU1 : Upd Nowhere w w1 := ((Upd.refl _ _).alloc _).trans u1 (fun _ _ h => h)
 obtain ⟨c_c0, c_c1, c_c2, c_c3, z_c0, z_c1, z_c2, z_c3⟩ := cells4 (hB_c1)
 have l_c1 := hB_c1.lt
 go_wp2_with fail
 refine ((H2 _).out).mono ?_
 rintro e w2 ⟨rfl, u2⟩
 clear c_c0 c_c1 c_c2 c_c3 z_c0 z_c1 z_c2 z_c3
 have hB_c2 : Blk w2 (w.heap.size) #[.int .u64 A, .int .u64 B, .int .u64 P, .int .i64 s] 54 := (hB_c1).kept u2 id
 have hU2 : Upd Nowhere w w2 := (hU1).trans u2 (fun _ _ h => h)
 clear u1
 obtain ⟨c_c0, c_c1, c_c2, c_c3, z_c0, z_c1, z_c2, z_c3⟩ := cells4 (hB_c2)
 have l_c2 := hB_c2.lt
 clear l_c1
 go_wp2_with fail
 refine ((H3 _).out).mono ?_
 rintro e w' ⟨rfl, rfl⟩
 go_wp2_with fail
 go_ret3
 exact ⟨rfl, hU2⟩
theorem r_few (A B P m c x : Nat) (s : Int) (h : ok A B P s) (hm : m ≤ 18446744073709551615) (hx : x ≤ 18446744073709551615) (hc : c ≤ 18446744073709551615) (hq1 : A ≤ fol m x (slo s) / 2 ^ slo s) (hq2 : fol m x (slo s) / 2 ^ slo s < B) (hp : min (min (c + 1) 18446744073709551615 * pt A B P (fol m x (slo s) / 2 ^ slo s)) 18446744073709551615 < 65536) (w : World) : Calls Tryz.prog 52 #[.agg #[.int .u64 A, .int .u64 B, .int .u64 P, .int .i64 s], .int .u64 m, .int .u64 c, .int .u64 x] w fun e w' => Gives w (.tuple #[.int .u64 (fol m x (slo s) : Nat), .int .u64 (min (c + 1) 18446744073709551615 : Nat), .bool false]) e w' := by
 have H1 := fun u => Lib.hid (may_ok A B P s h u)
 obtain ⟨k1, k2, k3, k4, k5, k6⟩ := id h
 have H2 := fun u => Lib.hid (Root.rfollow_any m x s hm hx u)
 have H3 := fun u => Lib.hid (Root.rmean_any (fol m x (slo s)) s (fol_le _ _ _) u)
 have H4 := fun u => Lib.hid (Sat.ref_add c 1 hc (by omega) u)
 have H5 := fun u => Lib.hid (rpt_any A B P (fol m x (slo s) / 2 ^ slo s) s h hq1 hq2 u)
 have hpt := pt_lt k4 hq2 k1
 have H6 := fun u => Lib.hid (Sat.ref_mul (min (c + 1) 18446744073709551615) (pt A B P (fol m x (slo s) / 2 ^ slo s)) (Nat.min_le_right _ _) (by omega) u)
 generalize min (min (c + 1) 18446744073709551615 * pt A B P (fol m x (slo s) / 2 ^ slo s)) 18446744073709551615 = z at *
 generalize pt A B P (fol m x (slo s) / 2 ^ slo s) = p at *
 generalize min (c + 1) 18446744073709551615 = n at *
 generalize fol m x (slo s) / 2 ^ slo s = q at *
 generalize fol m x (slo s) = f at *
 have t0 : decide (q < A) = false := decide_eq_false (by omega)
 have t1 : decide (B ≤ q) = false := decide_eq_false (by omega)
 have t1' : decide (q ≥ B) = false := decide_eq_false (by omega)
 have t2 : decide ((z : Int) ≥ 65536) = false := decide_eq_false (by omega)
 have t3 : decide (65536 ≤ (z : Int)) = false := decide_eq_false (by omega)
 clear h k1 k2 k3 k4 k5 k6 hm hx hc hq1 hq2 hp hpt
 go_enter Tryz.func52, Tryz.ntmps52
 go_wp2_with fail
 refine ((H1 _).out).mono ?_
 rintro e w1 ⟨rfl, u1⟩
 have hB_c1 : Blk w1 (w.heap.size) #[.int .u64 A, .int .u64 B, .int .u64 P, .int .i64 s] 54 := (Blk.new _ _ _).kept u1 id
 have hU1 : Upd Nowhere w w1 := ((Upd.refl _ _).alloc _).trans u1 (fun _ _ h => h)
 obtain ⟨c_c0, c_c1, c_c2, c_c3, z_c0, z_c1, z_c2, z_c3⟩ := cells4 (hB_c1)
 have l_c1 := hB_c1.lt
 go_wp2_with fail
 refine ((H2 _).out).mono ?_
 rintro e w2 ⟨rfl, u2⟩
 clear c_c0 c_c1 c_c2 c_c3 z_c0 z_c1 z_c2 z_c3
 have hB_c2 : Blk w2 (w.heap.size) #[.int .u64 A, .int .u64 B, .int .u64 P, .int .i64 s] 54 := (hB_c1).kept u2 id
 have hU2 : Upd Nowhere w w2 := (hU1).trans u2 (fun _ _ h => h)
 clear u1
 obtain ⟨c_c0, c_c1, c_c2, c_c3, z_c0, z_c1, z_c2, z_c3⟩ := cells4 (hB_c2)
 have l_c2 := hB_c2.lt
 clear l_c1
 go_wp2_with fail
 refine ((H3 _).out).mono ?_
 rintro e w' ⟨rfl, rfl⟩
 go_wp2_with fail
 refine ((H4 _).out).mono ?_
 rintro e w4 ⟨rfl, u4⟩
 clear c_c0 c_c1 c_c2 c_c3 z_c0 z_c1 z_c2 z_c3
 have hB_c4 : Blk w4 (w.heap.size) #[.int .u64 A, .int .u64 B, .int .u64 P, .int .i64 s] 54 := (hB_c2).kept u4 id
 have hU4 : Upd Nowhere w w4 := (hU2).trans u4 (fun _ _ h => h)
 clear u2
 obtain ⟨c_c0, c_c1, c_c2, c_c3, z_c0, z_c1, z_c2, z_c3⟩ := cells4 (hB_c4)
 have l_c4 := hB_c4.lt
 clear l_c2
 go_wp2_with fail
 refine ((H5 _).out).mono ?_
 rintro e w5 ⟨rfl, u5⟩
 clear c_c0 c_c1 c_c2 c_c3 z_c0 z_c1 z_c2 z_c3
 have hB_c5 : Blk w5 (w.heap.size) #[.int .u64 A, .int .u64 B, .int .u64 P, .int .i64 s] 54 := (hB_c4).kept u5 id
 have hU5 : Upd Nowhere w w5 := (hU4).trans u5 (fun _ _ h => h)
 clear u4
 obtain ⟨c_c0, c_c1, c_c2, c_c3, z_c0, z_c1, z_c2, z_c3⟩ := cells4 (hB_c5)
 have l_c5 := hB_c5.lt
 clear l_c4
 go_wp2_with fail
 refine ((H6 _).out).mono ?_
 rintro e w6 ⟨rfl, u6⟩
 clear c_c0 c_c1 c_c2 c_c3 z_c0 z_c1 z_c2 z_c3
 have hB_c6 : Blk w6 (w.heap.size) #[.int .u64 A, .int .u64 B, .int .u64 P, .int .i64 s] 54 := (hB_c5).kept u6 id
 have hU6 : Upd Nowhere w w6 := (hU5).trans u6 (fun _ _ h => h)
 clear u5
 obtain ⟨c_c0, c_c1, c_c2, c_c3, z_c0, z_c1, z_c2, z_c3⟩ := cells4 (hB_c6)
 have l_c6 := hB_c6.lt
 clear l_c5
 go_wp2_with fail
 go_ret3
 exact ⟨rfl, hU6⟩
theorem r_gone (A B P m c x : Nat) (s : Int) (h : ok A B P s) (hm : m ≤ 18446744073709551615) (hx : x ≤ 18446744073709551615) (hc : c ≤ 18446744073709551615) (hq1 : A ≤ fol m x (slo s) / 2 ^ slo s) (hq2 : fol m x (slo s) / 2 ^ slo s < B) (hp : 65536 ≤ min (min (c + 1) 18446744073709551615 * pt A B P (fol m x (slo s) / 2 ^ slo s)) 18446744073709551615) (w : World) : Calls Tryz.prog 52 #[.agg #[.int .u64 A, .int .u64 B, .int .u64 P, .int .i64 s], .int .u64 m, .int .u64 c, .int .u64 x] w fun e w' => Gives w (.tuple #[.int .u64 (fol m x (slo s) : Nat), .int .u64 0, .bool true]) e w' := by
 have H1 := fun u => Lib.hid (may_ok A B P s h u)
 obtain ⟨k1, k2, k3, k4, k5, k6⟩ := id h
 have H2 := fun u => Lib.hid (Root.rfollow_any m x s hm hx u)
 have H3 := fun u => Lib.hid (Root.rmean_any (fol m x (slo s)) s (fol_le _ _ _) u)
 have H4 := fun u => Lib.hid (Sat.ref_add c 1 hc (by omega) u)
 have H5 := fun u => Lib.hid (rpt_any A B P (fol m x (slo s) / 2 ^ slo s) s h hq1 hq2 u)
 have hpt := pt_lt k4 hq2 k1
 have H6 := fun u => Lib.hid (Sat.ref_mul (min (c + 1) 18446744073709551615) (pt A B P (fol m x (slo s) / 2 ^ slo s)) (Nat.min_le_right _ _) (by omega) u)
 generalize min (min (c + 1) 18446744073709551615 * pt A B P (fol m x (slo s) / 2 ^ slo s)) 18446744073709551615 = z at *
 generalize pt A B P (fol m x (slo s) / 2 ^ slo s) = p at *
 generalize min (c + 1) 18446744073709551615 = n at *
 generalize fol m x (slo s) / 2 ^ slo s = q at *
 generalize fol m x (slo s) = f at *
 have t0 : decide (q < A) = false := decide_eq_false (by omega)
 have t1 : decide (B ≤ q) = false := decide_eq_false (by omega)
 have t1' : decide (q ≥ B) = false := decide_eq_false (by omega)
 have t2 : decide ((z : Int) ≥ 65536) = true := decide_eq_true (by omega)
 have t3 : decide (65536 ≤ (z : Int)) = true := decide_eq_true (by omega)
 clear h k1 k2 k3 k4 k5 k6 hm hx hc hq1 hq2 hp hpt
 go_enter Tryz.func52, Tryz.ntmps52
 go_wp2_with fail
 refine ((H1 _).out).mono ?_
 rintro e w1 ⟨rfl, u1⟩
 have hB_c1 : Blk w1 (w.heap.size) #[.int .u64 A, .int .u64 B, .int .u64 P, .int .i64 s] 54 := (Blk.new _ _ _).kept u1 id
 have hU1 : Upd Nowhere w w1 := ((Upd.refl _ _).alloc _).trans u1 (fun _ _ h => h)
 obtain ⟨c_c0, c_c1, c_c2, c_c3, z_c0, z_c1, z_c2, z_c3⟩ := cells4 (hB_c1)
 have l_c1 := hB_c1.lt
 go_wp2_with fail
 refine ((H2 _).out).mono ?_
 rintro e w2 ⟨rfl, u2⟩
 clear c_c0 c_c1 c_c2 c_c3 z_c0 z_c1 z_c2 z_c3
 have hB_c2 : Blk w2 (w.heap.size) #[.int .u64 A, .int .u64 B, .int .u64 P, .int .i64 s] 54 := (hB_c1).kept u2 id
 have hU2 : Upd Nowhere w w2 := (hU1).trans u2 (fun _ _ h => h)
 clear u1
 obtain ⟨c_c0, c_c1, c_c2, c_c3, z_c0, z_c1, z_c2, z_c3⟩ := cells4 (hB_c2)
 have l_c2 := hB_c2.lt
 clear l_c1
 go_wp2_with fail
 refine ((H3 _).out).mono ?_
 rintro e w' ⟨rfl, rfl⟩
 go_wp2_with fail
 refine ((H4 _).out).mono ?_
 rintro e w4 ⟨rfl, u4⟩
 clear c_c0 c_c1 c_c2 c_c3 z_c0 z_c1 z_c2 z_c3
 have hB_c4 : Blk w4 (w.heap.size) #[.int .u64 A, .int .u64 B, .int .u64 P, .int .i64 s] 54 := (hB_c2).kept u4 id
 have hU4 : Upd Nowhere w w4 := (hU2).trans u4 (fun _ _ h => h)
 clear u2
 obtain ⟨c_c0, c_c1, c_c2, c_c3, z_c0, z_c1, z_c2, z_c3⟩ := cells4 (hB_c4)
 have l_c4 := hB_c4.lt
 clear l_c2
 go_wp2_with fail
 refine ((H5 _).out).mono ?_
 rintro e w5 ⟨rfl, u5⟩
 clear c_c0 c_c1 c_c2 c_c3 z_c0 z_c1 z_c2 z_c3
 have hB_c5 : Blk w5 (w.heap.size) #[.int .u64 A, .int .u64 B, .int .u64 P, .int .i64 s] 54 := (hB_c4).kept u5 id
 have hU5 : Upd Nowhere w w5 := (hU4).trans u5 (fun _ _ h => h)
 clear u4
 obtain ⟨c_c0, c_c1, c_c2, c_c3, z_c0, z_c1, z_c2, z_c3⟩ := cells4 (hB_c5)
 have l_c5 := hB_c5.lt
 clear l_c4
 go_wp2_with fail
 refine ((H6 _).out).mono ?_
 rintro e w6 ⟨rfl, u6⟩
 clear c_c0 c_c1 c_c2 c_c3 z_c0 z_c1 z_c2 z_c3
 have hB_c6 : Blk w6 (w.heap.size) #[.int .u64 A, .int .u64 B, .int .u64 P, .int .i64 s] 54 := (hB_c5).kept u6 id
 have hU6 : Upd Nowhere w w6 := (hU5).trans u6 (fun _ _ h => h)
 clear u5
 obtain ⟨c_c0, c_c1, c_c2, c_c3, z_c0, z_c1, z_c2, z_c3⟩ := cells4 (hB_c6)
 have l_c6 := hB_c6.lt
 clear l_c5
 go_wp2_with fail
 go_ret3
 exact ⟨rfl, hU6⟩
theorem step_any (A B P m c x : Nat) (s : Int) (hm : m ≤ 18446744073709551615) (hx : x ≤ 18446744073709551615) (hc : c ≤ 18446744073709551615) (w : World) : Calls Tryz.prog 68 #[.agg #[.int .u64 A, .int .u64 B, .int .u64 P, .int .i64 s], .agg #[.int .u64 m, .int .u64 c], .int .u64 x] w fun e w' => Gives w (.tuple #[.agg #[.int .u64 ((rs A B P s m c x).1.1 : Nat), .int .u64 ((rs A B P s m c x).1.2 : Nat)], .bool (rs A B P s m c x).2]) e w' := by
 by_cases h : ok A B P s
 · by_cases h1 : fol m x (slo s) / 2 ^ slo s < A
   · have e : rs A B P s m c x = ((fol m x (slo s), 0), false) := by unfold rs; rw [if_pos h, if_pos h1]
     rw [e]
     exact s_low A B P m c x s h hm hx h1 w
   · by_cases h2 : B ≤ fol m x (slo s) / 2 ^ slo s
     · have e : rs A B P s m c x = ((fol m x (slo s), 0), true) := by unfold rs; rw [if_pos h, if_neg h1, if_pos h2]
       rw [e]
       exact s_high A B P m c x s h hm hx h2 w
     · by_cases h3 : min (min (c + 1) 18446744073709551615 * pt A B P (fol m x (slo s) / 2 ^ slo s)) 18446744073709551615 < 65536
       · have e : rs A B P s m c x = ((fol m x (slo s), min (c + 1) 18446744073709551615), false) := by unfold rs; rw [if_pos h, if_neg h1, if_neg h2, if_pos h3]
         rw [e]
         exact s_few A B P m c x s h hm hx hc (Nat.not_lt.1 h1) (Nat.not_le.1 h2) h3 w
       · have e : rs A B P s m c x = ((fol m x (slo s), 0), true) := by unfold rs; rw [if_pos h, if_neg h1, if_neg h2, if_neg h3]
         rw [e]
         exact s_gone A B P m c x s h hm hx hc (Nat.not_lt.1 h1) (Nat.not_le.1 h2) (Nat.not_lt.1 h3) w
 · have e : rs A B P s m c x = ((m, c), false) := by unfold rs; rw [if_neg h]
   rw [e]
   exact s_no A B P m c x s h w
theorem rstep_any (A B P m c x : Nat) (s : Int) (hm : m ≤ 18446744073709551615) (hx : x ≤ 18446744073709551615) (hc : c ≤ 18446744073709551615) (w : World) : Calls Tryz.prog 52 #[.agg #[.int .u64 A, .int .u64 B, .int .u64 P, .int .i64 s], .int .u64 m, .int .u64 c, .int .u64 x] w fun e w' => Gives w (.tuple #[.int .u64 ((rs A B P s m c x).1.1 : Nat), .int .u64 ((rs A B P s m c x).1.2 : Nat), .bool (rs A B P s m c x).2]) e w' := by
 by_cases h : ok A B P s
 · by_cases h1 : fol m x (slo s) / 2 ^ slo s < A
   · have e : rs A B P s m c x = ((fol m x (slo s), 0), false) := by unfold rs; rw [if_pos h, if_pos h1]
     rw [e]
     exact r_low A B P m c x s h hm hx h1 w
   · by_cases h2 : B ≤ fol m x (slo s) / 2 ^ slo s
     · have e : rs A B P s m c x = ((fol m x (slo s), 0), true) := by unfold rs; rw [if_pos h, if_neg h1, if_pos h2]
       rw [e]
       exact r_high A B P m c x s h hm hx h2 w
     · by_cases h3 : min (min (c + 1) 18446744073709551615 * pt A B P (fol m x (slo s) / 2 ^ slo s)) 18446744073709551615 < 65536
       · have e : rs A B P s m c x = ((fol m x (slo s), min (c + 1) 18446744073709551615), false) := by unfold rs; rw [if_pos h, if_neg h1, if_neg h2, if_pos h3]
         rw [e]
         exact r_few A B P m c x s h hm hx hc (Nat.not_lt.1 h1) (Nat.not_le.1 h2) h3 w
       · have e : rs A B P s m c x = ((fol m x (slo s), 0), true) := by unfold rs; rw [if_pos h, if_neg h1, if_neg h2, if_neg h3]
         rw [e]
         exact r_gone A B P m c x s h hm hx hc (Nat.not_lt.1 h1) (Nat.not_le.1 h2) (Nat.not_lt.1 h3) w
 · have e : rs A B P s m c x = ((m, c), false) := by unfold rs; rw [if_neg h]
   rw [e]
   exact r_no A B P m c x s h w
end Go.Proofs.YtdddfmdcjjbegaaGreat.Red

