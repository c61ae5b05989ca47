/- The reference's Step; both Steps are one function. -/
import Derived.Test.YtgmiggnlhcldlaaRed2
namespace Go.Proofs.Ytgmiggnlhcldlaa.Red
open Go.RowKit Go.Proofs BigFrame
open Wide (Gives)
open Bits (sat_add wrapN mulN)
open Root (slo fol)
set_option maxHeartbeats 2000000
set_option maxRecDepth 100000
theorem rpt_any (A B P q : Nat) (s : Int) (h : ok A B P s) (hq1 : A ≤ q) (hq2 : q < B) (w : World) : Calls Try.prog 39 #[.agg #[.int .u64 A, .int .u64 B, .int .u64 P, .int .i64 s], .int .u64 q] w fun e w' => Gives w (.int .u64 (pt A B P q : Nat)) e w' := by
  obtain ⟨k1, k2, k3, k4, k5, k6⟩ := h
  have hpt := pt_lt k4 hq2 k1
  have e1 := Root.less_wrap q A (by omega) hq1
  have e2 := Root.less_wrap B A (by omega) (by omega)
  have hm : P * (q - A) ≤ 65536 * 1099511627776 := Nat.mul_le_mul k4 (by omega)
  have e3 : IntKind.u64.wrap ((P : Int) * ((q - A : Nat) : Int)) = ((P * (q - A) : Nat) : Int) := by rw [mulN]; exact wrapN _ (by omega)
  have e4 : ((P * (q - A) : Nat) : Int) / ((B - A : Nat) : Int) = ((pt A B P q : Nat) : Int) := rfl
  have e5 := wrapN (pt A B P q) (by omega)
  have e6 : (1 : Int) ≤ ((B - A : Nat) : Int) := by omega
  have e7 : (((B - A : Nat) : Int) == 0) = false := by simp; omega
  generalize pt A B P q = p at *
  generalize P * (q - A) = z at *
  generalize q - A = qa at *
  generalize B - A = ba at *
  clear k1 k2 k3 k4 k5 k6 hpt hm hq1 hq2
  go_enter Try.func39, Try.ntmps39
  go_wp2_with fail
  go_ret
  exact ⟨rfl, (Upd.refl _ _).alloc _⟩
theorem r_no (A B P m c x : Nat) (s : Int) (h : ¬ok A B P s) (w : World) : Calls Try.prog 37 #[.agg #[.int .u64 A, .int .u64 B, .int .u64 P, .int .i64 s], .int .u64 m, .int .u64 c, .int .u64 x] w fun e w' => Gives w (.tuple #[.int .u64 m, .int .u64 c, .bool false]) e w' := by
  have H1 := fun u => Lib.hid (may_no A B P s h u)
  clear h
  go_enter Try.func37, Try.ntmps37
  go_wp2_with fail
  refine ((H1 _).out).mono ?_
  rintro e w1 ⟨rfl, u1⟩
  have hB_c1 : Blk w1 (w.heap.size) #[.int .u64 A, .int .u64 B, .int .u64 P, .int .i64 s] 80 := (Blk.new _ _ _).kept u1 id
  have hU1 : Upd Nowhere w w1 := ((Upd.refl _ _).alloc _).trans u1 (fun _ _ h => h)
  obtain ⟨c_c0, c_c1, c_c2, c_c3, z_c0, z_c1, z_c2, z_c3⟩ := cells4 (hB_c1)
  have l_c1 := hB_c1.lt
  go_wp2_with fail
  go_ret3
  exact ⟨rfl, hU1⟩
theorem r_low (A B P m c x : Nat) (s : Int) (h : ok A B P s) (hm : m ≤ 18446744073709551615) (hx : x ≤ 18446744073709551615) (hq : fol m x (slo s) / 2 ^ slo s < A) (w : World) : Calls Try.prog 37 #[.agg #[.int .u64 A, .int .u64 B, .int .u64 P, .int .i64 s], .int .u64 m, .int .u64 c, .int .u64 x] w fun e w' => Gives w (.tuple #[.int .u64 (fol m x (slo s) : Nat), .int .u64 0, .bool false]) e w' := by
  have H1 := fun u => Lib.hid (may_ok A B P s h u)
  obtain ⟨k1, k2, k3, k4, k5, k6⟩ := id h
  have H2 := fun u => Lib.hid (Root.rfollow_any m x s hm hx u)
  have H3 := fun u => Lib.hid (Root.rmean_any (fol m x (slo s)) s (fol_le _ _ _) u)
  generalize fol m x (slo s) / 2 ^ slo s = q at *
  generalize fol m x (slo s) = f at *
  have t0 : decide (q < A) = true := decide_eq_true (by omega)
  clear h k1 k2 k3 k4 k5 k6 hm hx hq
  go_enter Try.func37, Try.ntmps37
  go_wp2_with fail
  refine ((H1 _).out).mono ?_
  rintro e w1 ⟨rfl, u1⟩
  have hB_c1 : Blk w1 (w.heap.size) #[.int .u64 A, .int .u64 B, .int .u64 P, .int .i64 s] 80 := (Blk.new _ _ _).kept u1 id
  have hU1 : Upd Nowhere w w1 := ((Upd.refl _ _).alloc _).trans u1 (fun _ _ h => h)
  obtain ⟨c_c0, c_c1, c_c2, c_c3, z_c0, z_c1, z_c2, z_c3⟩ := cells4 (hB_c1)
  have l_c1 := hB_c1.lt
  go_wp2_with fail
  refine ((H2 _).out).mono ?_
  rintro e w2 ⟨rfl, u2⟩
  clear c_c0 c_c1 c_c2 c_c3 z_c0 z_c1 z_c2 z_c3
  have hB_c2 : Blk w2 (w.heap.size) #[.int .u64 A, .int .u64 B, .int .u64 P, .int .i64 s] 80 := (hB_c1).kept u2 id
  have hU2 : Upd Nowhere w w2 := (hU1).trans u2 (fun _ _ h => h)
  clear u1
  obtain ⟨c_c0, c_c1, c_c2, c_c3, z_c0, z_c1, z_c2, z_c3⟩ := cells4 (hB_c2)
  have l_c2 := hB_c2.lt
  clear l_c1
  go_wp2_with fail
  refine ((H3 _).out).mono ?_
  rintro e w' ⟨rfl, rfl⟩
  go_wp2_with fail
  go_ret3
  exact ⟨rfl, hU2⟩
theorem r_high (A B P m c x : Nat) (s : Int) (h : ok A B P s) (hm : m ≤ 18446744073709551615) (hx : x ≤ 18446744073709551615) (hq : B ≤ fol m x (slo s) / 2 ^ slo s) (w : World) : Calls Try.prog 37 #[.agg #[.int .u64 A, .int .u64 B, .int .u64 P, .int .i64 s], .int .u64 m, .int .u64 c, .int .u64 x] w fun e w' => Gives w (.tuple #[.int .u64 (fol m x (slo s) : Nat), .int .u64 0, .bool true]) e w' := by
  have H1 := fun u => Lib.hid (may_ok A B P s h u)
  obtain ⟨k1, k2, k3, k4, k5, k6⟩ := id h
  have H2 := fun u => Lib.hid (Root.rfollow_any m x s hm hx u)
  have H3 := fun u => Lib.hid (Root.rmean_any (fol m x (slo s)) s (fol_le _ _ _) u)
  generalize fol m x (slo s) / 2 ^ slo s = q at *
  generalize fol m x (slo s) = f at *
  have t0 : decide (q < A) = false := decide_eq_false (by omega)
  have t1 : decide (B ≤ q) = true := decide_eq_true (by omega)
  have t2 : decide (q ≥ B) = true := decide_eq_true (by omega)
  clear h k1 k2 k3 k4 k5 k6 hm hx hq
  go_enter Try.func37, Try.ntmps37
  go_wp2_with fail
  refine ((H1 _).out).mono ?_
  rintro e w1 ⟨rfl, u1⟩
  have hB_c1 : Blk w1 (w.heap.size) #[.int .u64 A, .int .u64 B, .int .u64 P, .int .i64 s] 80 := (Blk.new _ _ _).kept u1 id
  have hU1 : Upd Nowhere w w1 := ((Upd.refl _ _).alloc _).trans u1 (fun _ _ h => h)
  obtain ⟨c_c0, c_c1, c_c2, c_c3, z_c0, z_c1, z_c2, z_c3⟩ := cells4 (hB_c1)
  have l_c1 := hB_c1.lt
  go_wp2_with fail
  refine ((H2 _).out).mono ?_
  rintro e w2 ⟨rfl, u2⟩
  clear c_c0 c_c1 c_c2 c_c3 z_c0 z_c1 z_c2 z_c3
  have hB_c2 : Blk w2 (w.heap.size) #[.int .u64 A, .int .u64 B, .int .u64 P, .int .i64 s] 80 := (hB_c1).kept u2 id
  have hU2 : Upd Nowhere w w2 := (hU1).trans u2 (fun _ _ h => h)
  clear u1
  obtain ⟨c_c0, c_c1, c_c2, c_c3, z_c0, z_c1, z_c2, z_c3⟩ := cells4 (hB_c2)
  have l_c2 := hB_c2.lt
  clear l_c1
  go_wp2_with fail
  refine ((H3 _).out).mono ?_
  rintro e w' ⟨rfl, rfl⟩
  go_wp2_with fail
  go_ret3
  exact ⟨rfl, hU2⟩
theorem r_few (A B P m c x : Nat) (s : Int) (h : ok A B P s) (hm : m ≤ 18446744073709551615) (hx : x ≤ 18446744073709551615) (hc : c ≤ 18446744073709551615) (hq1 : A ≤ fol m x (slo s) / 2 ^ slo s) (hq2 : fol m x (slo s) / 2 ^ slo s < B) (hp : min (min (c + 1) 18446744073709551615 * pt A B P (fol m x (slo s) / 2 ^ slo s)) 18446744073709551615 < 65536) (w : World) : Calls Try.prog 37 #[.agg #[.int .u64 A, .int .u64 B, .int .u64 P, .int .i64 s], .int .u64 m, .int .u64 c, .int .u64 x] w fun e w' => Gives w (.tuple #[.int .u64 (fol m x (slo s) : Nat), .int .u64 (min (c + 1) 18446744073709551615 : Nat), .bool false]) e w' := by
  have H1 := fun u => Lib.hid (may_ok A B P s h u)
  obtain ⟨k1, k2, k3, k4, k5, k6⟩ := id h
  have H2 := fun u => Lib.hid (Root.rfollow_any m x s hm hx u)
  have H3 := fun u => Lib.hid (Root.rmean_any (fol m x (slo s)) s (fol_le _ _ _) u)
  have H4 := fun u => Lib.hid (Sat.ref_add c 1 hc (by omega) u)
  have H5 := fun u => Lib.hid (rpt_any A B P (fol m x (slo s) / 2 ^ slo s) s h hq1 hq2 u)
  have hpt := pt_lt k4 hq2 k1
  have H6 := fun u => Lib.hid (Sat.ref_mul (min (c + 1) 18446744073709551615) (pt A B P (fol m x (slo s) / 2 ^ slo s)) (Nat.min_le_right _ _) (by omega) u)
  generalize min (min (c + 1) 18446744073709551615 * pt A B P (fol m x (slo s) / 2 ^ slo s)) 18446744073709551615 = z at *
  generalize pt A B P (fol m x (slo s) / 2 ^ slo s) = p at *
  generalize min (c + 1) 18446744073709551615 = n at *
  generalize fol m x (slo s) / 2 ^ slo s = q at *
  generalize fol m x (slo s) = f at *
  have t0 : decide (q < A) = false := decide_eq_false (by omega)
  have t1 : decide (B ≤ q) = false := decide_eq_false (by omega)
  have t1' : decide (q ≥ B) = false := decide_eq_false (by omega)
  have t2 : decide ((z : Int) ≥ 65536) = false := decide_eq_false (by omega)
  have t3 : decide (65536 ≤ (z : Int)) = false := decide_eq_false (by omega)
  clear h k1 k2 k3 k4 k5 k6 hm hx hc hq1 hq2 hp hpt
  go_enter Try.func37, Try.ntmps37
  go_wp2_with fail
  refine ((H1 _).out).mono ?_
  rintro e w1 ⟨rfl, u1⟩
  have hB_c1 : Blk w1 (w.heap.size) #[.int .u64 A, .int .u64 B, .int .u64 P, .int .i64 s] 80 := (Blk.new _ _ _).kept u1 id
  have hU1 : Upd Nowhere w w1 := ((Upd.refl _ _).alloc _).trans u1 (fun _ _ h => h)
  obtain ⟨c_c0, c_c1, c_c2, c_c3, z_c0, z_c1, z_c2, z_c3⟩ := cells4 (hB_c1)
  have l_c1 := hB_c1.lt
  go_wp2_with fail
  refine ((H2 _).out).mono ?_
  rintro e w2 ⟨rfl, u2⟩
  clear c_c0 c_c1 c_c2 c_c3 z_c0 z_c1 z_c2 z_c3
  have hB_c2 : Blk w2 (w.heap.size) #[.int .u64 A, .int .u64 B, .int .u64 P, .int .i64 s] 80 := (hB_c1).kept u2 id
  have hU2 : Upd Nowhere w w2 := (hU1).trans u2 (fun _ _ h => h)
  clear u1
  obtain ⟨c_c0, c_c1, c_c2, c_c3, z_c0, z_c1, z_c2, z_c3⟩ := cells4 (hB_c2)
  have l_c2 := hB_c2.lt
  clear l_c1
  go_wp2_with fail
  refine ((H3 _).out).mono ?_
  rintro e w' ⟨rfl, rfl⟩
  go_wp2_with fail
  refine ((H4 _).out).mono ?_
  rintro e w4 ⟨rfl, u4⟩
  clear c_c0 c_c1 c_c2 c_c3 z_c0 z_c1 z_c2 z_c3
  have hB_c4 : Blk w4 (w.heap.size) #[.int .u64 A, .int .u64 B, .int .u64 P, .int .i64 s] 80 := (hB_c2).kept u4 id
  have hU4 : Upd Nowhere w w4 := (hU2).trans u4 (fun _ _ h => h)
  clear u2
  obtain ⟨c_c0, c_c1, c_c2, c_c3, z_c0, z_c1, z_c2, z_c3⟩ := cells4 (hB_c4)
  have l_c4 := hB_c4.lt
  clear l_c2
  go_wp2_with fail
  refine ((H5 _).out).mono ?_
  rintro e w5 ⟨rfl, u5⟩
  clear c_c0 c_c1 c_c2 c_c3 z_c0 z_c1 z_c2 z_c3
  have hB_c5 : Blk w5 (w.heap.size) #[.int .u64 A, .int .u64 B, .int .u64 P, .int .i64 s] 80 := (hB_c4).kept u5 id
  have hU5 : Upd Nowhere w w5 := (hU4).trans u5 (fun _ _ h => h)
  clear u4
  obtain ⟨c_c0, c_c1, c_c2, c_c3, z_c0, z_c1, z_c2, z_c3⟩ := cells4 (hB_c5)
  have l_c5 := hB_c5.lt
  clear l_c4
  go_wp2_with fail
  refine ((H6 _).out).mono ?_
  rintro e w6 ⟨rfl, u6⟩
  clear c_c0 c_c1 c_c2 c_c3 z_c0 z_c1 z_c2 z_c3
  have hB_c6 : Blk w6 (w.heap.size) #[.int .u64 A, .int .u64 B, .int .u64 P, .int .i64 s] 80 := (hB_c5).kept u6 id
  have hU6 : Upd Nowhere w w6 := (hU5).trans u6 (fun _ _ h => h)
  clear u5
  obtain ⟨c_c0, c_c1, c_c2, c_c3, z_c0, z_c1, z_c2, z_c3⟩ := cells4 (hB_c6)
  have l_c6 := hB_c6.lt
  clear l_c5
  go_wp2_with fail
  go_ret3
  exact ⟨rfl, hU6⟩
theorem r_gone (A B P m c x : Nat) (s : Int) (h : ok A B P s) (hm : m ≤ 18446744073709551615) (hx : x ≤ 18446744073709551615) (hc : c ≤ 18446744073709551615) (hq1 : A ≤ fol m x (slo s) / 2 ^ slo s) (hq2 : fol m x (slo s) / 2 ^ slo s < B) (hp : 65536 ≤ min (min (c + 1) 18446744073709551615 * pt A B P (fol m x (slo s) / 2 ^ slo s)) 18446744073709551615) (w : World) : Calls Try.prog 37 #[.agg #[.int .u64 A, .int .u64 B, .int .u64 P, .int .i64 s], .int .u64 m, .int .u64 c, .int .u64 x] w fun e w' => Gives w (.tuple #[.int .u64 (fol m x (slo s) : Nat), .int .u64 0, .bool true]) e w' := by
  have H1 := fun u => Lib.hid (may_ok A B P s h u)
  obtain ⟨k1, k2, k3, k4, k5, k6⟩ := id h
  have H2 := fun u => Lib.hid (Root.rfollow_any m x s hm hx u)
  have H3 := fun u => Lib.hid (Root.rmean_any (fol m x (slo s)) s (fol_le _ _ _) u)
  have H4 := fun u => Lib.hid (Sat.ref_add c 1 hc (by omega) u)
  have H5 := fun u => Lib.hid (rpt_any A B P (fol m x (slo s) / 2 ^ slo s) s h hq1 hq2 u)
  have hpt := pt_lt k4 hq2 k1
  have H6 := fun u => Lib.hid (Sat.ref_mul (min (c + 1) 18446744073709551615) (pt A B P (fol m x (slo s) / 2 ^ slo s)) (Nat.min_le_right _ _) (by omega) u)
  generalize min (min (c + 1) 18446744073709551615 * pt A B P (fol m x (slo s) / 2 ^ slo s)) 18446744073709551615 = z at *
  generalize pt A B P (fol m x (slo s) / 2 ^ slo s) = p at *
  generalize min (c + 1) 18446744073709551615 = n at *
  generalize fol m x (slo s) / 2 ^ slo s = q at *
  generalize fol m x (slo s) = f at *
  have t0 : decide (q < A) = false := decide_eq_false (by omega)
  have t1 : decide (B ≤ q) = false := decide_eq_false (by omega)
  have t1' : decide (q ≥ B) = false := decide_eq_false (by omega)
  have t2 : decide ((z : Int) ≥ 65536) = true := decide_eq_true (by omega)
  have t3 : decide (65536 ≤ (z : Int)) = true := decide_eq_true (by omega)
  clear h k1 k2 k3 k4 k5 k6 hm hx hc hq1 hq2 hp hpt
  go_enter Try.func37, Try.ntmps37
  go_wp2_with fail
  refine ((H1 _).out).mono ?_
  rintro e w1 ⟨rfl, u1⟩
  have hB_c1 : Blk w1 (w.heap.size) #[.int .u64 A, .int .u64 B, .int .u64 P, .int .i64 s] 80 := (Blk.new _ _ _).kept u1 id
  have hU1 : Upd Nowhere w w1 := ((Upd.refl _ _).alloc _).trans u1 (fun _ _ h => h)
  obtain ⟨c_c0, c_c1, c_c2, c_c3, z_c0, z_c1, z_c2, z_c3⟩ := cells4 (hB_c1)
  have l_c1 := hB_c1.lt
  go_wp2_with fail
  refine ((H2 _).out).mono ?_
  rintro e w2 ⟨rfl, u2⟩
  clear c_c0 c_c1 c_c2 c_c3 z_c0 z_c1 z_c2 z_c3
  have hB_c2 : Blk w2 (w.heap.size) #[.int .u64 A, .int .u64 B, .int .u64 P, .int .i64 s] 80 := (hB_c1).kept u2 id
  have hU2 : Upd Nowhere w w2 := (hU1).trans u2 (fun _ _ h => h)
  clear u1
  obtain ⟨c_c0, c_c1, c_c2, c_c3, z_c0, z_c1, z_c2, z_c3⟩ := cells4 (hB_c2)
  have l_c2 := hB_c2.lt
  clear l_c1
  go_wp2_with fail
  refine ((H3 _).out).mono ?_
  rintro e w' ⟨rfl, rfl⟩
  go_wp2_with fail
  refine ((H4 _).out).mono ?_
  rintro e w4 ⟨rfl, u4⟩
  clear c_c0 c_c1 c_c2 c_c3 z_c0 z_c1 z_c2 z_c3
  have hB_c4 : Blk w4 (w.heap.size) #[.int .u64 A, .int .u64 B, .int .u64 P, .int .i64 s] 80 := (hB_c2).kept u4 id
  have hU4 : Upd Nowhere w w4 := (hU2).trans u4 (fun _ _ h => h)
  clear u2
  obtain ⟨c_c0, c_c1, c_c2, c_c3, z_c0, z_c1, z_c2, z_c3⟩ := cells4 (hB_c4)
  have l_c4 := hB_c4.lt
  clear l_c2
  go_wp2_with fail
  refine ((H5 _).out).mono ?_
  rintro e w5 ⟨rfl, u5⟩
  clear c_c0 c_c1 c_c2 c_c3 z_c0 z_c1 z_c2 z_c3
  have hB_c5 : Blk w5 (w.heap.size) #[.int .u64 A, .int .u64 B, .int .u64 P, .int .i64 s] 80 := (hB_c4).kept u5 id
  have hU5 : Upd Nowhere w w5 := (hU4).trans u5 (fun _ _ h => h)
  clear u4
  obtain ⟨c_c0, c_c1, c_c2, c_c3, z_c0, z_c1, z_c2, z_c3⟩ := cells4 (hB_c5)
  have l_c5 := hB_c5.lt
  clear l_c4
  go_wp2_with fail
  refine ((H6 _).out).mono ?_
  rintro e w6 ⟨rfl, u6⟩
  clear c_c0 c_c1 c_c2 c_c3 z_c0 z_c1 z_c2 z_c3
  have hB_c6 : Blk w6 (w.heap.size) #[.int .u64 A, .int .u64 B, .int .u64 P, .int .i64 s] 80 := (hB_c5).kept u6 id
  have hU6 : Upd Nowhere w w6 := (hU5).trans u6 (fun _ _ h => h)
  clear u5
  obtain ⟨c_c0, c_c1, c_c2, c_c3, z_c0, z_c1, z_c2, z_c3⟩ := cells4 (hB_c6)
  have l_c6 := hB_c6.lt
  clear l_c5
  go_wp2_with fail
  go_ret3
  exact ⟨rfl, hU6⟩
theorem step_any (A B P m c x : Nat) (s : Int) (hm : m ≤ 18446744073709551615) (hx : x ≤ 18446744073709551615) (hc : c ≤ 18446744073709551615) (w : World) : Calls Try.prog 36 #[.agg #[.int .u64 A, .int .u64 B, .int .u64 P, .int .i64 s], .agg #[.int .u64 m, .int .u64 c], .int .u64 x] w fun e w' => Gives w (.tuple #[.agg #[.int .u64 ((rs A B P s m c x).1.1 : Nat), .int .u64 ((rs A B P s m c x).1.2 : Nat)], .bool (rs A B P s m c x).2]) e w' := by
  by_cases h : ok A B P s
  · by_cases h1 : fol m x (slo s) / 2 ^ slo s < A
    · have e : rs A B P s m c x = ((fol m x (slo s), 0), false) := by unfold rs; rw [if_pos h, if_pos h1]
      rw [e]
      exact s_low A B P m c x s h hm hx h1 w
    · by_cases h2 : B ≤ fol m x (slo s) / 2 ^ slo s
      · have e : rs A B P s m c x = ((fol m x (slo s), 0), true) := by unfold rs; rw [if_pos h, if_neg h1, if_pos h2]
        rw [e]
        exact s_high A B P m c x s h hm hx h2 w
      · by_cases h3 : min (min (c + 1) 18446744073709551615 * pt A B P (fol m x (slo s) / 2 ^ slo s)) 18446744073709551615 < 65536
        · have e : rs A B P s m c x = ((fol m x (slo s), min (c + 1) 18446744073709551615), false) := by unfold rs; rw [if_pos h, if_neg h1, if_neg h2, if_pos h3]
          rw [e]
          exact s_few A B P m c x s h hm hx hc (Nat.not_lt.1 h1) (Nat.not_le.1 h2) h3 w
        · have e : rs A B P s m c x = ((fol m x (slo s), 0), true) := by unfold rs; rw [if_pos h, if_neg h1, if_neg h2, if_neg h3]
          rw [e]
          exact s_gone A B P m c x s h hm hx hc (Nat.not_lt.1 h1) (Nat.not_le.1 h2) (Nat.not_lt.1 h3) w
  · have e : rs A B P s m c x = ((m, c), false) := by unfold rs; rw [if_neg h]
    rw [e]
    exact s_no A B P m c x s h w
theorem rstep_any (A B P m c x : Nat) (s : Int) (hm : m ≤ 18446744073709551615) (hx : x ≤ 18446744073709551615) (hc : c ≤ 18446744073709551615) (w : World) : Calls Try.prog 37 #[.agg #[.int .u64 A, .int .u64 B, .int .u64 P, .int .i64 s], .int .u64 m, .int .u64 c, .int .u64 x] w fun e w' => Gives w (.tuple #[.int .u64 ((rs A B P s m c x).1.1 : Nat), .int .u64 ((rs A B P s m c x).1.2 : Nat), .bool (rs A B P s m c x).2]) e w' := by
  by_cases h : ok A B P s
  · by_cases h1 : fol m x (slo s) / 2 ^ slo s < A
    · have e : rs A B P s m c x = ((fol m x (slo s), 0), false) := by unfold rs; rw [if_pos h, if_pos h1]
      rw [e]
      exact r_low A B P m c x s h hm hx h1 w
    · by_cases h2 : B ≤ fol m x (slo s) / 2 ^ slo s
      · have e : rs A B P s m c x = ((fol m x (slo s), 0), true) := by unfold rs; rw [if_pos h, if_neg h1, if_pos h2]
        rw [e]
        exact r_high A B P m c x s h hm hx h2 w
      · by_cases h3 : min (min (c + 1) 18446744073709551615 * pt A B P (fol m x (slo s) / 2 ^ slo s)) 18446744073709551615 < 65536
        · have e : rs A B P s m c x = ((fol m x (slo s), min (c + 1) 18446744073709551615), false) := by unfold rs; rw [if_pos h, if_neg h1, if_neg h2, if_pos h3]
          rw [e]
          exact r_few A B P m c x s h hm hx hc (Nat.not_lt.1 h1) (Nat.not_le.1 h2) h3 w
        · have e : rs A B P s m c x = ((fol m x (slo s), 0), true) := by unfold rs; rw [if_pos h, if_neg h1, if_neg h2, if_neg h3]
          rw [e]
          exact r_gone A B P m c x s h hm hx hc (Nat.not_lt.1 h1) (Nat.not_le.1 h2) (Nat.not_lt.1 h3) w
  · have e : rs A B P s m c x = ((m, c), false) := by unfold rs; rw [if_neg h]
    rw [e]
    exact r_no A B P m c x s h w
end Go.Proofs.Ytgmiggnlhcldlaa.Red
