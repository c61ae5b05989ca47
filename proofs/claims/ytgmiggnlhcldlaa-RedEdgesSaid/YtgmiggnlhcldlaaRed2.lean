/- red's Step. -/
import Derived.Test.YtgmiggnlhcldlaaRed
import Derived.BigRegion
namespace Go.Proofs.Ytgmiggnlhcldlaa.Red
open Go.RowKit Go.Proofs BigFrame
open Wide (Gives)
open Bits (sat_add wrapN mulN)
open Root (slo fol)
set_option maxHeartbeats 2000000
set_option maxRecDepth 100000
theorem s_no (A B P m c x : Nat) (s : Int) (h : ¬ok A B P s) (w : World) : Calls Try.prog 36 #[.agg #[.int .u64 A, .int .u64 B, .int .u64 P, .int .i64 s], .agg #[.int .u64 m, .int .u64 c], .int .u64 x] w fun e w' => Gives w (.tuple #[.agg #[.int .u64 m, .int .u64 c], .bool false]) e w' := by
  have H1 := fun u => Lib.hid (check_no A B P s h u)
  clear h
  go_enter Try.func36, Try.ntmps36
  go_wp2_with fail
  refine ((H1 _).out).mono ?_
  rintro e w1 ⟨rfl, u1⟩
  have hB_c1 : Blk w1 (w.heap.size) #[.int .u64 A, .int .u64 B, .int .u64 P, .int .i64 s] 83 := (((Blk.new _ _ _).alloc _).alloc _).kept u1 id
  have hB_s1 : Blk w1 (w.heap.size + 1) #[.int .u64 m, .int .u64 c] 82 := ((Blk.new2 _ _ _ _).alloc _).kept u1 id
  have hB_r1 : Blk w1 (w.heap.size + 1 + 1) #[.int .u64 0, .int .u64 0] 82 := (Blk.new3 _ _ _ _ _).kept u1 id
  have hU1 : Upd Nowhere w w1 := ((((Upd.refl _ _).alloc _).alloc _).alloc _).trans u1 (fun _ _ h => h)
  obtain ⟨c_c0, c_c1, c_c2, c_c3, z_c0, z_c1, z_c2, z_c3⟩ := cells4 (hB_c1)
  obtain ⟨c_s0, c_s1, z_s0, z_s1⟩ := cells2 (hB_s1)
  obtain ⟨c_r0, c_r1, z_r0, z_r1⟩ := cells2 (hB_r1)
  have l_c1 := hB_c1.lt
  have l_s1 := hB_s1.lt
  have l_r1 := hB_r1.lt
  go_wp2_with fail
  exact bodyPost_ret (v := .tuple #[.agg #[.int .u64 m, .int .u64 c], .bool false]) (by simp [results, Try.results36, go_sem, c_r0, c_r1]) rfl ⟨rfl, by repeat (first | with_reducible exact hU1 | with_reducible refine Upd.setNew ?_ (by first | (simp; done) | (dsimp only; omega)) _ | with_reducible refine Upd.drewN ?_ _ | with_reducible refine Upd.drew ?_ | with_reducible refine Upd.alloc ?_ _)⟩
theorem s_low (A B P m c x : Nat) (s : Int) (h : ok A B P s) (hm : m ≤ 18446744073709551615) (hx : x ≤ 18446744073709551615) (hq : fol m x (slo s) / 2 ^ slo s < A) (w : World) : Calls Try.prog 36 #[.agg #[.int .u64 A, .int .u64 B, .int .u64 P, .int .i64 s], .agg #[.int .u64 m, .int .u64 c], .int .u64 x] w fun e w' => Gives w (.tuple #[.agg #[.int .u64 (fol m x (slo s) : Nat), .int .u64 0], .bool false]) e w' := by
  have H1 := fun u => Lib.hid (check_ok A B P s h u)
  obtain ⟨k1, k2, k3, k4, k5, k6⟩ := h
  have H2 := fun u => Lib.hid (Root.follow_any m x s hm hx u)
  have H3 := fun u => Lib.hid (Root.mean_any (fol m x (slo s)) s u)
  generalize fol m x (slo s) / 2 ^ slo s = q at *
  generalize fol m x (slo s) = f at *
  have t0 : decide (q < A) = true := decide_eq_true (by omega)
  have t1 : decide (B ≤ q) = false := decide_eq_false (by omega)
  have t1' : decide (q ≥ B) = false := decide_eq_false (by omega)
  clear k1 k2 k3 k4 k5 k6 hm hx hq
  go_enter Try.func36, Try.ntmps36
  go_wp2_with fail
  refine ((H1 _).out).mono ?_
  rintro e w1 ⟨rfl, u1⟩
  have hB_c1 : Blk w1 (w.heap.size) #[.int .u64 A, .int .u64 B, .int .u64 P, .int .i64 s] 83 := (((Blk.new _ _ _).alloc _).alloc _).kept u1 id
  have hB_s1 : Blk w1 (w.heap.size + 1) #[.int .u64 m, .int .u64 c] 82 := ((Blk.new2 _ _ _ _).alloc _).kept u1 id
  have hB_r1 : Blk w1 (w.heap.size + 1 + 1) #[.int .u64 0, .int .u64 0] 82 := (Blk.new3 _ _ _ _ _).kept u1 id
  have hU1 : Upd Nowhere w w1 := ((((Upd.refl _ _).alloc _).alloc _).alloc _).trans u1 (fun _ _ h => h)
  obtain ⟨c_c0, c_c1, c_c2, c_c3, z_c0, z_c1, z_c2, z_c3⟩ := cells4 (hB_c1)
  obtain ⟨c_s0, c_s1, z_s0, z_s1⟩ := cells2 (hB_s1)
  obtain ⟨c_r0, c_r1, z_r0, z_r1⟩ := cells2 (hB_r1)
  have l_c1 := hB_c1.lt
  have l_s1 := hB_s1.lt
  have l_r1 := hB_r1.lt
  go_wp2_with fail
  refine ((H2 _).out).mono ?_
  rintro e w' ⟨rfl, rfl⟩
  go_wp2_with fail
  refine ((H3 _).out).mono ?_
  rintro e w' ⟨rfl, rfl⟩
  go_wp2_with fail
  clear c_c0 c_c1 c_c2 c_c3 z_c0 z_c1 z_c2 z_c3
  clear c_s0 c_s1 z_s0 z_s1
  clear c_r0 c_r1 z_r0 z_r1
  have hB_c4 : Blk (((w1.setCell ⟨w.heap.size + 1, 0, none⟩ (.int .u64 f)).setCell ⟨w.heap.size + 1, 1, none⟩ (.int .u64 0))) (w.heap.size) #[.int .u64 A, .int .u64 B, .int .u64 P, .int .i64 s] 83 := ((hB_c1).setOther (by first | (simp; done) | (dsimp only; omega)) _).setOther (by first | (simp; done) | (dsimp only; omega)) _
  have hB_s4 : Blk (((w1.setCell ⟨w.heap.size + 1, 0, none⟩ (.int .u64 f)).setCell ⟨w.heap.size + 1, 1, none⟩ (.int .u64 0))) (w.heap.size + 1) #[.int .u64 f, .int .u64 0] 82 := ((hB_s1).set 0 (.int .u64 f)).set 1 (.int .u64 0)
  have hB_r4 : Blk (((w1.setCell ⟨w.heap.size + 1, 0, none⟩ (.int .u64 f)).setCell ⟨w.heap.size + 1, 1, none⟩ (.int .u64 0))) (w.heap.size + 1 + 1) #[.int .u64 0, .int .u64 0] 82 := ((hB_r1).setOther (by first | (simp; done) | (dsimp only; omega)) _).setOther (by first | (simp; done) | (dsimp only; omega)) _
  have hU4 : Upd Nowhere w (((w1.setCell ⟨w.heap.size + 1, 0, none⟩ (.int .u64 f)).setCell ⟨w.heap.size + 1, 1, none⟩ (.int .u64 0))) := ((hU1).setNew (by first | (simp; done) | (dsimp only; omega)) _).setNew (by first | (simp; done) | (dsimp only; omega)) _
  generalize ((w1.setCell ⟨w.heap.size + 1, 0, none⟩ (.int .u64 f)).setCell ⟨w.heap.size + 1, 1, none⟩ (.int .u64 0)) = w4 at *
  clear u1
  obtain ⟨c_c0, c_c1, c_c2, c_c3, z_c0, z_c1, z_c2, z_c3⟩ := cells4 (hB_c4)
  obtain ⟨c_s0, c_s1, z_s0, z_s1⟩ := cells2 (hB_s4)
  obtain ⟨c_r0, c_r1, z_r0, z_r1⟩ := cells2 (hB_r4)
  have l_c4 := hB_c4.lt
  have l_s4 := hB_s4.lt
  have l_r4 := hB_r4.lt
  clear l_c1 l_s1 l_r1
  have ne_sr : ¬ w.heap.size + 1 = w.heap.size + 1 + 1 := by omega
  have ne_rs : ¬ w.heap.size + 1 + 1 = w.heap.size + 1 := by omega
  go_region
  all_goals
    go_wp2_with fail
    exact bodyPost_ret (v := .tuple #[.agg #[.int .u64 f, .int .u64 0], .bool false]) (by simp [results, Try.results36, go_sem, c_r0, c_r1]) rfl ⟨rfl, by repeat (first | with_reducible exact hU4 | with_reducible refine Upd.setNew ?_ (by first | (simp; done) | (dsimp only; omega)) _ | with_reducible refine Upd.drewN ?_ _ | with_reducible refine Upd.drew ?_ | with_reducible refine Upd.alloc ?_ _)⟩
theorem s_high (A B P m c x : Nat) (s : Int) (h : ok A B P s) (hm : m ≤ 18446744073709551615) (hx : x ≤ 18446744073709551615) (hq : B ≤ fol m x (slo s) / 2 ^ slo s) (w : World) : Calls Try.prog 36 #[.agg #[.int .u64 A, .int .u64 B, .int .u64 P, .int .i64 s], .agg #[.int .u64 m, .int .u64 c], .int .u64 x] w fun e w' => Gives w (.tuple #[.agg #[.int .u64 (fol m x (slo s) : Nat), .int .u64 0], .bool true]) e w' := by
  have H1 := fun u => Lib.hid (check_ok A B P s h u)
  obtain ⟨k1, k2, k3, k4, k5, k6⟩ := h
  have H2 := fun u => Lib.hid (Root.follow_any m x s hm hx u)
  have H3 := fun u => Lib.hid (Root.mean_any (fol m x (slo s)) s u)
  generalize fol m x (slo s) / 2 ^ slo s = q at *
  generalize fol m x (slo s) = f at *
  have t0 : decide (q < A) = false := decide_eq_false (by omega)
  have t1 : decide (B ≤ q) = true := decide_eq_true (by omega)
  have t1' : decide (q ≥ B) = true := decide_eq_true (by omega)
  clear k1 k2 k3 k4 k5 k6 hm hx hq
  go_enter Try.func36, Try.ntmps36
  go_wp2_with fail
  refine ((H1 _).out).mono ?_
  rintro e w1 ⟨rfl, u1⟩
  have hB_c1 : Blk w1 (w.heap.size) #[.int .u64 A, .int .u64 B, .int .u64 P, .int .i64 s] 83 := (((Blk.new _ _ _).alloc _).alloc _).kept u1 id
  have hB_s1 : Blk w1 (w.heap.size + 1) #[.int .u64 m, .int .u64 c] 82 := ((Blk.new2 _ _ _ _).alloc _).kept u1 id
  have hB_r1 : Blk w1 (w.heap.size + 1 + 1) #[.int .u64 0, .int .u64 0] 82 := (Blk.new3 _ _ _ _ _).kept u1 id
  have hU1 : Upd Nowhere w w1 := ((((Upd.refl _ _).alloc _).alloc _).alloc _).trans u1 (fun _ _ h => h)
  obtain ⟨c_c0, c_c1, c_c2, c_c3, z_c0, z_c1, z_c2, z_c3⟩ := cells4 (hB_c1)
  obtain ⟨c_s0, c_s1, z_s0, z_s1⟩ := cells2 (hB_s1)
  obtain ⟨c_r0, c_r1, z_r0, z_r1⟩ := cells2 (hB_r1)
  have l_c1 := hB_c1.lt
  have l_s1 := hB_s1.lt
  have l_r1 := hB_r1.lt
  go_wp2_with fail
  refine ((H2 _).out).mono ?_
  rintro e w' ⟨rfl, rfl⟩
  go_wp2_with fail
  refine ((H3 _).out).mono ?_
  rintro e w' ⟨rfl, rfl⟩
  go_wp2_with fail
  clear c_c0 c_c1 c_c2 c_c3 z_c0 z_c1 z_c2 z_c3
  clear c_s0 c_s1 z_s0 z_s1
  clear c_r0 c_r1 z_r0 z_r1
  have hB_c4 : Blk (((w1.setCell ⟨w.heap.size + 1, 0, none⟩ (.int .u64 f)).setCell ⟨w.heap.size + 1, 1, none⟩ (.int .u64 0))) (w.heap.size) #[.int .u64 A, .int .u64 B, .int .u64 P, .int .i64 s] 83 := ((hB_c1).setOther (by first | (simp; done) | (dsimp only; omega)) _).setOther (by first | (simp; done) | (dsimp only; omega)) _
  have hB_s4 : Blk (((w1.setCell ⟨w.heap.size + 1, 0, none⟩ (.int .u64 f)).setCell ⟨w.heap.size + 1, 1, none⟩ (.int .u64 0))) (w.heap.size + 1) #[.int .u64 f, .int .u64 0] 82 := ((hB_s1).set 0 (.int .u64 f)).set 1 (.int .u64 0)
  have hB_r4 : Blk (((w1.setCell ⟨w.heap.size + 1, 0, none⟩ (.int .u64 f)).setCell ⟨w.heap.size + 1, 1, none⟩ (.int .u64 0))) (w.heap.size + 1 + 1) #[.int .u64 0, .int .u64 0] 82 := ((hB_r1).setOther (by first | (simp; done) | (dsimp only; omega)) _).setOther (by first | (simp; done) | (dsimp only; omega)) _
  have hU4 : Upd Nowhere w (((w1.setCell ⟨w.heap.size + 1, 0, none⟩ (.int .u64 f)).setCell ⟨w.heap.size + 1, 1, none⟩ (.int .u64 0))) := ((hU1).setNew (by first | (simp; done) | (dsimp only; omega)) _).setNew (by first | (simp; done) | (dsimp only; omega)) _
  generalize ((w1.setCell ⟨w.heap.size + 1, 0, none⟩ (.int .u64 f)).setCell ⟨w.heap.size + 1, 1, none⟩ (.int .u64 0)) = w4 at *
  clear u1
  obtain ⟨c_c0, c_c1, c_c2, c_c3, z_c0, z_c1, z_c2, z_c3⟩ := cells4 (hB_c4)
  obtain ⟨c_s0, c_s1, z_s0, z_s1⟩ := cells2 (hB_s4)
  obtain ⟨c_r0, c_r1, z_r0, z_r1⟩ := cells2 (hB_r4)
  have l_c4 := hB_c4.lt
  have l_s4 := hB_s4.lt
  have l_r4 := hB_r4.lt
  clear l_c1 l_s1 l_r1
  have ne_sr : ¬ w.heap.size + 1 = w.heap.size + 1 + 1 := by omega
  have ne_rs : ¬ w.heap.size + 1 + 1 = w.heap.size + 1 := by omega
  go_region
  all_goals
    go_wp2_with fail
    exact bodyPost_ret (v := .tuple #[.agg #[.int .u64 f, .int .u64 0], .bool true]) (by simp [results, Try.results36, go_sem, c_r0, c_r1]) rfl ⟨rfl, by repeat (first | with_reducible exact hU4 | with_reducible refine Upd.setNew ?_ (by first | (simp; done) | (dsimp only; omega)) _ | with_reducible refine Upd.drewN ?_ _ | with_reducible refine Upd.drew ?_ | with_reducible refine Upd.alloc ?_ _)⟩
theorem s_few (A B P m c x : Nat) (s : Int) (h : ok A B P s) (hm : m ≤ 18446744073709551615) (hx : x ≤ 18446744073709551615) (hc : c ≤ 18446744073709551615) (hq1 : A ≤ fol m x (slo s) / 2 ^ slo s) (hq2 : fol m x (slo s) / 2 ^ slo s < B) (hp : min (min (c + 1) 18446744073709551615 * pt A B P (fol m x (slo s) / 2 ^ slo s)) 18446744073709551615 < 65536) (w : World) : Calls Try.prog 36 #[.agg #[.int .u64 A, .int .u64 B, .int .u64 P, .int .i64 s], .agg #[.int .u64 m, .int .u64 c], .int .u64 x] w fun e w' => Gives w (.tuple #[.agg #[.int .u64 (fol m x (slo s) : Nat), .int .u64 (min (c + 1) 18446744073709551615 : Nat)], .bool false]) e w' := by
  have H1 := fun u => Lib.hid (check_ok A B P s h u)
  obtain ⟨k1, k2, k3, k4, k5, k6⟩ := h
  have H2 := fun u => Lib.hid (Root.follow_any m x s hm hx u)
  have H3 := fun u => Lib.hid (Root.mean_any (fol m x (slo s)) s u)
  have H4 := fun u => Lib.hid (sat_add c 1 u hc (by omega))
  have h5 := fun u => Sat.sat_muldiv P (fol m x (slo s) / 2 ^ slo s - A) (B - A) (by omega) (by omega) (by omega) u
  rw [pt_through k4 hq2 k1] at h5
  have H5 := fun u => Lib.hid (h5 u)
  have hpt := pt_lt k4 hq2 k1
  have H6 := fun u => Lib.hid (Sat.sat_mul (min (c + 1) 18446744073709551615) (pt A B P (fol m x (slo s) / 2 ^ slo s)) (Nat.min_le_right _ _) (by omega) u)
  generalize min (min (c + 1) 18446744073709551615 * pt A B P (fol m x (slo s) / 2 ^ slo s)) 18446744073709551615 = z at *
  generalize pt A B P (fol m x (slo s) / 2 ^ slo s) = p at *
  generalize min (c + 1) 18446744073709551615 = n at *
  generalize fol m x (slo s) / 2 ^ slo s = q at *
  generalize fol m x (slo s) = f at *
  have e1 := Root.less_wrap q A (by omega) hq1
  have e2 := Root.less_wrap B A (by omega) (by omega)
  have t0 : decide (q < A) = false := decide_eq_false (by omega)
  have t1 : decide (B ≤ q) = false := decide_eq_false (by omega)
  have t1' : decide (q ≥ B) = false := decide_eq_false (by omega)
  have t2 : decide ((z : Int) < 65536) = true := decide_eq_true (by omega)
  generalize q - A = qa at *
  generalize B - A = ba at *
  clear k1 k2 k3 k4 k5 k6 hm hx hc hq1 hq2 hp hpt h5
  go_enter Try.func36, Try.ntmps36
  go_wp2_with fail
  refine ((H1 _).out).mono ?_
  rintro e w1 ⟨rfl, u1⟩
  have hB_c1 : Blk w1 (w.heap.size) #[.int .u64 A, .int .u64 B, .int .u64 P, .int .i64 s] 83 := (((Blk.new _ _ _).alloc _).alloc _).kept u1 id
  have hB_s1 : Blk w1 (w.heap.size + 1) #[.int .u64 m, .int .u64 c] 82 := ((Blk.new2 _ _ _ _).alloc _).kept u1 id
  have hB_r1 : Blk w1 (w.heap.size + 1 + 1) #[.int .u64 0, .int .u64 0] 82 := (Blk.new3 _ _ _ _ _).kept u1 id
  have hU1 : Upd Nowhere w w1 := ((((Upd.refl _ _).alloc _).alloc _).alloc _).trans u1 (fun _ _ h => h)
  obtain ⟨c_c0, c_c1, c_c2, c_c3, z_c0, z_c1, z_c2, z_c3⟩ := cells4 (hB_c1)
  obtain ⟨c_s0, c_s1, z_s0, z_s1⟩ := cells2 (hB_s1)
  obtain ⟨c_r0, c_r1, z_r0, z_r1⟩ := cells2 (hB_r1)
  have l_c1 := hB_c1.lt
  have l_s1 := hB_s1.lt
  have l_r1 := hB_r1.lt
  go_wp2_with fail
  refine ((H2 _).out).mono ?_
  rintro e w' ⟨rfl, rfl⟩
  go_wp2_with fail
  refine ((H3 _).out).mono ?_
  rintro e w' ⟨rfl, rfl⟩
  go_wp2_with fail
  refine ((H4 _).out).mono ?_
  rintro e w' ⟨rfl, rfl⟩
  go_wp2_with fail
  refine (H5 _).out.mono ?_
  rintro e w' ⟨rfl, kd, rfl⟩
  clear c_c0 c_c1 c_c2 c_c3 z_c0 z_c1 z_c2 z_c3
  clear c_s0 c_s1 z_s0 z_s1
  clear c_r0 c_r1 z_r0 z_r1
  have hB_c5 : Blk (((w1.setCell ⟨w.heap.size + 1, 0, none⟩ (.int .u64 f)).setCell ⟨w.heap.size + 1, 1, none⟩ (.int .u64 n)).drewN kd) (w.heap.size) #[.int .u64 A, .int .u64 B, .int .u64 P, .int .i64 s] 83 := (((hB_c1).setOther (by first | (simp; done) | (dsimp only; omega)) _).setOther (by first | (simp; done) | (dsimp only; omega)) _).drewN kd
  have hB_s5 : Blk (((w1.setCell ⟨w.heap.size + 1, 0, none⟩ (.int .u64 f)).setCell ⟨w.heap.size + 1, 1, none⟩ (.int .u64 n)).drewN kd) (w.heap.size + 1) #[.int .u64 f, .int .u64 n] 82 := (((hB_s1).set 0 (.int .u64 f)).set 1 (.int .u64 n)).drewN kd
  have hB_r5 : Blk (((w1.setCell ⟨w.heap.size + 1, 0, none⟩ (.int .u64 f)).setCell ⟨w.heap.size + 1, 1, none⟩ (.int .u64 n)).drewN kd) (w.heap.size + 1 + 1) #[.int .u64 0, .int .u64 0] 82 := (((hB_r1).setOther (by first | (simp; done) | (dsimp only; omega)) _).setOther (by first | (simp; done) | (dsimp only; omega)) _).drewN kd
  have hU5 : Upd Nowhere w (((w1.setCell ⟨w.heap.size + 1, 0, none⟩ (.int .u64 f)).setCell ⟨w.heap.size + 1, 1, none⟩ (.int .u64 n)).drewN kd) := (((hU1).setNew (by first | (simp; done) | (dsimp only; omega)) _).setNew (by first | (simp; done) | (dsimp only; omega)) _).drewN kd
  generalize ((w1.setCell ⟨w.heap.size + 1, 0, none⟩ (.int .u64 f)).setCell ⟨w.heap.size + 1, 1, none⟩ (.int .u64 n)).drewN kd = w5 at *
  clear u1
  obtain ⟨c_c0, c_c1, c_c2, c_c3, z_c0, z_c1, z_c2, z_c3⟩ := cells4 (hB_c5)
  obtain ⟨c_s0, c_s1, z_s0, z_s1⟩ := cells2 (hB_s5)
  obtain ⟨c_r0, c_r1, z_r0, z_r1⟩ := cells2 (hB_r5)
  have l_c5 := hB_c5.lt
  have l_s5 := hB_s5.lt
  have l_r5 := hB_r5.lt
  clear l_c1 l_s1 l_r1
  go_wp2_with fail
  refine ((H6 _).out).mono ?_
  rintro e w' ⟨rfl, rfl⟩
  go_wp2_with fail
  exact bodyPost_ret (v := .tuple #[.agg #[.int .u64 f, .int .u64 n], .bool false]) (by simp [results, Try.results36, go_sem, c_r0, c_r1]) rfl ⟨rfl, by repeat (first | with_reducible exact hU5 | with_reducible refine Upd.setNew ?_ (by first | (simp; done) | (dsimp only; omega)) _ | with_reducible refine Upd.drewN ?_ _ | with_reducible refine Upd.drew ?_ | with_reducible refine Upd.alloc ?_ _)⟩
theorem s_gone (A B P m c x : Nat) (s : Int) (h : ok A B P s) (hm : m ≤ 18446744073709551615) (hx : x ≤ 18446744073709551615) (hc : c ≤ 18446744073709551615) (hq1 : A ≤ fol m x (slo s) / 2 ^ slo s) (hq2 : fol m x (slo s) / 2 ^ slo s < B) (hp : 65536 ≤ min (min (c + 1) 18446744073709551615 * pt A B P (fol m x (slo s) / 2 ^ slo s)) 18446744073709551615) (w : World) : Calls Try.prog 36 #[.agg #[.int .u64 A, .int .u64 B, .int .u64 P, .int .i64 s], .agg #[.int .u64 m, .int .u64 c], .int .u64 x] w fun e w' => Gives w (.tuple #[.agg #[.int .u64 (fol m x (slo s) : Nat), .int .u64 0], .bool true]) e w' := by
  have H1 := fun u => Lib.hid (check_ok A B P s h u)
  obtain ⟨k1, k2, k3, k4, k5, k6⟩ := h
  have H2 := fun u => Lib.hid (Root.follow_any m x s hm hx u)
  have H3 := fun u => Lib.hid (Root.mean_any (fol m x (slo s)) s u)
  have H4 := fun u => Lib.hid (sat_add c 1 u hc (by omega))
  have h5 := fun u => Sat.sat_muldiv P (fol m x (slo s) / 2 ^ slo s - A) (B - A) (by omega) (by omega) (by omega) u
  rw [pt_through k4 hq2 k1] at h5
  have H5 := fun u => Lib.hid (h5 u)
  have hpt := pt_lt k4 hq2 k1
  have H6 := fun u => Lib.hid (Sat.sat_mul (min (c + 1) 18446744073709551615) (pt A B P (fol m x (slo s) / 2 ^ slo s)) (Nat.min_le_right _ _) (by omega) u)
  generalize min (min (c + 1) 18446744073709551615 * pt A B P (fol m x (slo s) / 2 ^ slo s)) 18446744073709551615 = z at *
  generalize pt A B P (fol m x (slo s) / 2 ^ slo s) = p at *
  generalize min (c + 1) 18446744073709551615 = n at *
  generalize fol m x (slo s) / 2 ^ slo s = q at *
  generalize fol m x (slo s) = f at *
  have e1 := Root.less_wrap q A (by omega) hq1
  have e2 := Root.less_wrap B A (by omega) (by omega)
  have t0 : decide (q < A) = false := decide_eq_false (by omega)
  have t1 : decide (B ≤ q) = false := decide_eq_false (by omega)
  have t1' : decide (q ≥ B) = false := decide_eq_false (by omega)
  have t2 : decide ((z : Int) < 65536) = false := decide_eq_false (by omega)
  generalize q - A = qa at *
  generalize B - A = ba at *
  clear k1 k2 k3 k4 k5 k6 hm hx hc hq1 hq2 hp hpt h5
  go_enter Try.func36, Try.ntmps36
  go_wp2_with fail
  refine ((H1 _).out).mono ?_
  rintro e w1 ⟨rfl, u1⟩
  have hB_c1 : Blk w1 (w.heap.size) #[.int .u64 A, .int .u64 B, .int .u64 P, .int .i64 s] 83 := (((Blk.new _ _ _).alloc _).alloc _).kept u1 id
  have hB_s1 : Blk w1 (w.heap.size + 1) #[.int .u64 m, .int .u64 c] 82 := ((Blk.new2 _ _ _ _).alloc _).kept u1 id
  have hB_r1 : Blk w1 (w.heap.size + 1 + 1) #[.int .u64 0, .int .u64 0] 82 := (Blk.new3 _ _ _ _ _).kept u1 id
  have hU1 : Upd Nowhere w w1 := ((((Upd.refl _ _).alloc _).alloc _).alloc _).trans u1 (fun _ _ h => h)
  obtain ⟨c_c0, c_c1, c_c2, c_c3, z_c0, z_c1, z_c2, z_c3⟩ := cells4 (hB_c1)
  obtain ⟨c_s0, c_s1, z_s0, z_s1⟩ := cells2 (hB_s1)
  obtain ⟨c_r0, c_r1, z_r0, z_r1⟩ := cells2 (hB_r1)
  have l_c1 := hB_c1.lt
  have l_s1 := hB_s1.lt
  have l_r1 := hB_r1.lt
  go_wp2_with fail
  refine ((H2 _).out).mono ?_
  rintro e w' ⟨rfl, rfl⟩
  go_wp2_with fail
  refine ((H3 _).out).mono ?_
  rintro e w' ⟨rfl, rfl⟩
  go_wp2_with fail
  refine ((H4 _).out).mono ?_
  rintro e w' ⟨rfl, rfl⟩
  go_wp2_with fail
  refine (H5 _).out.mono ?_
  rintro e w' ⟨rfl, kd, rfl⟩
  clear c_c0 c_c1 c_c2 c_c3 z_c0 z_c1 z_c2 z_c3
  clear c_s0 c_s1 z_s0 z_s1
  clear c_r0 c_r1 z_r0 z_r1
  have hB_c5 : Blk (((w1.setCell ⟨w.heap.size + 1, 0, none⟩ (.int .u64 f)).setCell ⟨w.heap.size + 1, 1, none⟩ (.int .u64 n)).drewN kd) (w.heap.size) #[.int .u64 A, .int .u64 B, .int .u64 P, .int .i64 s] 83 := (((hB_c1).setOther (by first | (simp; done) | (dsimp only; omega)) _).setOther (by first | (simp; done) | (dsimp only; omega)) _).drewN kd
  have hB_s5 : Blk (((w1.setCell ⟨w.heap.size + 1, 0, none⟩ (.int .u64 f)).setCell ⟨w.heap.size + 1, 1, none⟩ (.int .u64 n)).drewN kd) (w.heap.size + 1) #[.int .u64 f, .int .u64 n] 82 := (((hB_s1).set 0 (.int .u64 f)).set 1 (.int .u64 n)).drewN kd
  have hB_r5 : Blk (((w1.setCell ⟨w.heap.size + 1, 0, none⟩ (.int .u64 f)).setCell ⟨w.heap.size + 1, 1, none⟩ (.int .u64 n)).drewN kd) (w.heap.size + 1 + 1) #[.int .u64 0, .int .u64 0] 82 := (((hB_r1).setOther (by first | (simp; done) | (dsimp only; omega)) _).setOther (by first | (simp; done) | (dsimp only; omega)) _).drewN kd
  have hU5 : Upd Nowhere w (((w1.setCell ⟨w.heap.size + 1, 0, none⟩ (.int .u64 f)).setCell ⟨w.heap.size + 1, 1, none⟩ (.int .u64 n)).drewN kd) := (((hU1).setNew (by first | (simp; done) | (dsimp only; omega)) _).setNew (by first | (simp; done) | (dsimp only; omega)) _).drewN kd
  generalize ((w1.setCell ⟨w.heap.size + 1, 0, none⟩ (.int .u64 f)).setCell ⟨w.heap.size + 1, 1, none⟩ (.int .u64 n)).drewN kd = w5 at *
  clear u1
  obtain ⟨c_c0, c_c1, c_c2, c_c3, z_c0, z_c1, z_c2, z_c3⟩ := cells4 (hB_c5)
  obtain ⟨c_s0, c_s1, z_s0, z_s1⟩ := cells2 (hB_s5)
  obtain ⟨c_r0, c_r1, z_r0, z_r1⟩ := cells2 (hB_r5)
  have l_c5 := hB_c5.lt
  have l_s5 := hB_s5.lt
  have l_r5 := hB_r5.lt
  clear l_c1 l_s1 l_r1
  go_wp2_with fail
  refine ((H6 _).out).mono ?_
  rintro e w' ⟨rfl, rfl⟩
  go_wp2_with fail
  exact bodyPost_ret (v := .tuple #[.agg #[.int .u64 f, .int .u64 0], .bool true]) (by simp [results, Try.results36, go_sem, c_r0, c_r1]) rfl ⟨rfl, by repeat (first | with_reducible exact hU5 | with_reducible refine Upd.setNew ?_ (by first | (simp; done) | (dsimp only; omega)) _ | with_reducible refine Upd.drewN ?_ _ | with_reducible refine Upd.drew ?_ | with_reducible refine Upd.alloc ?_ _)⟩
end Go.Proofs.Ytgmiggnlhcldlaa.Red
