/- BucketWaits. -/
import Derived.Test.YtgmiggnlhcldlaaBucketLaws
namespace Go.Proofs.Ytgmiggnlhcldlaa.Bucket
open Go.RowKit Go.Proofs BigFrame
open Wide (Gives)
open Sat (ups)
set_option maxHeartbeats 2000000
set_option maxRecDepth 100000
theorem waits_no (r b t n c : Nat) (hcase : c ≠ 0 ∨ (c = 0 ∧ b < n)) (w : World)
    (H1 : ∀ u, Hid (Calls Try.prog 15 #[.agg #[.int .u64 r, .int .u64 b, .int .u64 t], .int .u64 n] u fun e w' => Gives u (.tuple #[.int .u64 0, .bool false]) e w'))
    (H2 : ∀ u, Hid (Calls Try.prog 18 #[.agg #[.int .u64 r, .int .u64 b, .int .u64 t]] u fun e w' => Gives u (.int .i64 c) e w')) :
    Calls Try.prog 6 #[.agg #[.int .u64 r, .int .u64 b, .int .u64 t], .int .u64 n] w fun e w' => e = .returned (.bool true) ∧ Upd Nowhere w w' := by
  have HL := fun u => Lib.hid (lives u)
  rcases hcase with hc | ⟨rfl, hn⟩
  · have ec : ((c : Int) == 0) = false := by simp; omega
    have en : ((c : Int) != 0) = true := by simp; omega
    clear hc
    go_enter Try.func6, Try.ntmps6
    go_wp2_with fail
    refine ((H1 _).out).mono ?_
    rintro e w1 ⟨rfl, u1⟩
    have hB_a1 : Blk w1 (w.heap.size) #[.int .u64 r, .int .u64 b, .int .u64 t] 24 := ((Blk.new _ _ _).alloc _).kept u1 id
    have hB_c1 : Blk w1 (w.heap.size + 1) #[.int .u64 r, .int .u64 b, .int .u64 t] 25 := (Blk.new2 _ _ _ _).kept u1 id
    have hU1 : Upd Nowhere w w1 := (((Upd.refl _ _).alloc _).alloc _).trans u1 (fun _ _ h => h)
    obtain ⟨c_a0, c_a1, c_a2, z_a0, z_a1, z_a2⟩ := cells3 (hB_a1)
    obtain ⟨c_c0, c_c1, c_c2, z_c0, z_c1, z_c2⟩ := cells3 (hB_c1)
    have l_a1 := hB_a1.lt
    have l_c1 := hB_c1.lt
    go_wp2_with fail
    refine ((H2 _).out).mono ?_
    rintro e w2 ⟨rfl, u2⟩
    clear c_a0 c_a1 c_a2 z_a0 z_a1 z_a2
    clear c_c0 c_c1 c_c2 z_c0 z_c1 z_c2
    have hB_a2 : Blk w2 (w.heap.size) #[.int .u64 r, .int .u64 b, .int .u64 t] 24 := (hB_a1).kept u2 id
    have hB_c2 : Blk w2 (w.heap.size + 1) #[.int .u64 r, .int .u64 b, .int .u64 t] 25 := (hB_c1).kept u2 id
    have hU2 : Upd Nowhere w w2 := (hU1).trans u2 (fun _ _ h => h)
    clear u1
    obtain ⟨c_a0, c_a1, c_a2, z_a0, z_a1, z_a2⟩ := cells3 (hB_a2)
    obtain ⟨c_c0, c_c1, c_c2, z_c0, z_c1, z_c2⟩ := cells3 (hB_c2)
    have l_a2 := hB_a2.lt
    have l_c2 := hB_c2.lt
    clear l_a1 l_c1
    go_wp2_with fail
    refine ((HL _).out).mono ?_
    rintro e w3 ⟨rfl, u3⟩
    clear c_a0 c_a1 c_a2 z_a0 z_a1 z_a2
    clear c_c0 c_c1 c_c2 z_c0 z_c1 z_c2
    have hB_a3 : Blk w3 (w.heap.size) #[.int .u64 r, .int .u64 b, .int .u64 t] 24 := (hB_a2).kept u3 id
    have hB_c3 : Blk w3 (w.heap.size + 1) #[.int .u64 r, .int .u64 b, .int .u64 t] 25 := (hB_c2).kept u3 id
    have hU3 : Upd Nowhere w w3 := (hU2).trans u3 (fun _ _ h => h)
    clear u2
    obtain ⟨c_a0, c_a1, c_a2, z_a0, z_a1, z_a2⟩ := cells3 (hB_a3)
    obtain ⟨c_c0, c_c1, c_c2, z_c0, z_c1, z_c2⟩ := cells3 (hB_c3)
    have l_a3 := hB_a3.lt
    have l_c3 := hB_c3.lt
    clear l_a2 l_c2
    go_wp2_with fail
    go_ret
    exact ⟨rfl, hU3⟩
  · go_enter Try.func6, Try.ntmps6
    go_wp2_with fail
    refine ((H1 _).out).mono ?_
    rintro e w1 ⟨rfl, u1⟩
    have hB_a1 : Blk w1 (w.heap.size) #[.int .u64 r, .int .u64 b, .int .u64 t] 24 := ((Blk.new _ _ _).alloc _).kept u1 id
    have hB_c1 : Blk w1 (w.heap.size + 1) #[.int .u64 r, .int .u64 b, .int .u64 t] 25 := (Blk.new2 _ _ _ _).kept u1 id
    have hU1 : Upd Nowhere w w1 := (((Upd.refl _ _).alloc _).alloc _).trans u1 (fun _ _ h => h)
    obtain ⟨c_a0, c_a1, c_a2, z_a0, z_a1, z_a2⟩ := cells3 (hB_a1)
    obtain ⟨c_c0, c_c1, c_c2, z_c0, z_c1, z_c2⟩ := cells3 (hB_c1)
    have l_a1 := hB_a1.lt
    have l_c1 := hB_c1.lt
    go_wp2_with fail
    refine ((H2 _).out).mono ?_
    rintro e w2 ⟨rfl, u2⟩
    clear c_a0 c_a1 c_a2 z_a0 z_a1 z_a2
    clear c_c0 c_c1 c_c2 z_c0 z_c1 z_c2
    have hB_a2 : Blk w2 (w.heap.size) #[.int .u64 r, .int .u64 b, .int .u64 t] 24 := (hB_a1).kept u2 id
    have hB_c2 : Blk w2 (w.heap.size + 1) #[.int .u64 r, .int .u64 b, .int .u64 t] 25 := (hB_c1).kept u2 id
    have hU2 : Upd Nowhere w w2 := (hU1).trans u2 (fun _ _ h => h)
    clear u1
    obtain ⟨c_a0, c_a1, c_a2, z_a0, z_a1, z_a2⟩ := cells3 (hB_a2)
    obtain ⟨c_c0, c_c1, c_c2, z_c0, z_c1, z_c2⟩ := cells3 (hB_c2)
    have l_a2 := hB_a2.lt
    have l_c2 := hB_c2.lt
    clear l_a1 l_c1
    go_wp2_with fail
    refine ((HL _).out).mono ?_
    rintro e w3 ⟨rfl, u3⟩
    clear c_a0 c_a1 c_a2 z_a0 z_a1 z_a2
    clear c_c0 c_c1 c_c2 z_c0 z_c1 z_c2
    have hB_a3 : Blk w3 (w.heap.size) #[.int .u64 r, .int .u64 b, .int .u64 t] 24 := (hB_a2).kept u3 id
    have hB_c3 : Blk w3 (w.heap.size + 1) #[.int .u64 r, .int .u64 b, .int .u64 t] 25 := (hB_c2).kept u3 id
    have hU3 : Upd Nowhere w w3 := (hU2).trans u3 (fun _ _ h => h)
    clear u2
    obtain ⟨c_a0, c_a1, c_a2, z_a0, z_a1, z_a2⟩ := cells3 (hB_a3)
    obtain ⟨c_c0, c_c1, c_c2, z_c0, z_c1, z_c2⟩ := cells3 (hB_c3)
    have l_a3 := hB_a3.lt
    have l_c3 := hB_c3.lt
    clear l_a2 l_c2
    go_wp2_with fail
    go_ret
    exact ⟨rfl, hU3⟩
theorem waits_yes (r b t n v t1 t2 d : Nat) (hn : n ≤ b) (bv : v ≤ 18446744073709551615) (hv : v = 0 ↔ n ≤ t) (w : World)
    (H1 : ∀ u, Hid (Calls Try.prog 15 #[.agg #[.int .u64 r, .int .u64 b, .int .u64 t], .int .u64 n] u fun e w' => Gives u (.tuple #[.int .u64 v, .bool true]) e w'))
    (H2 : ∀ u, Hid (Calls Try.prog 18 #[.agg #[.int .u64 r, .int .u64 b, .int .u64 t]] u fun e w' => Gives u (.int .i64 0) e w'))
    (H3 : ∀ u, Hid (Calls Try.prog 20 #[.agg #[.int .u64 r, .int .u64 b, .int .u64 t], .int .u64 v] u fun e w' => Gives u (.agg #[.int .u64 r, .int .u64 b, .int .u64 t1]) e w'))
    (H4 : ∀ u, Hid (Calls Try.prog 13 #[.agg #[.int .u64 r, .int .u64 b, .int .u64 t1], .int .u64 n] u fun e w' => Gives u (.tuple #[.agg #[.int .u64 r, .int .u64 b, .int .u64 d], .bool true]) e w'))
    (H5 : 0 < v → ∀ u, Hid (Calls Try.prog 20 #[.agg #[.int .u64 r, .int .u64 b, .int .u64 t], .int .u64 (v - 1 : Nat)] u fun e w' => Gives u (.agg #[.int .u64 r, .int .u64 b, .int .u64 t2]) e w'))
    (H6 : 0 < v → ∀ u, Hid (Calls Try.prog 13 #[.agg #[.int .u64 r, .int .u64 b, .int .u64 t2], .int .u64 n] u fun e w' => Gives u (.tuple #[.agg #[.int .u64 r, .int .u64 b, .int .u64 t2], .bool false]) e w')) :
    Calls Try.prog 6 #[.agg #[.int .u64 r, .int .u64 b, .int .u64 t], .int .u64 n] w fun e w' => e = .returned (.bool true) ∧ Upd Nowhere w w' := by
  have HL := fun u => Lib.hid (lives u)
  have tb : decide (b < n) = false := decide_eq_false (by omega)
  rcases Nat.eq_zero_or_pos v with hv0 | hpos
  · have tn : decide (n ≤ t) = true := decide_eq_true (hv.1 hv0)
    subst hv0
    clear hv H5 H6 hn bv
    go_enter Try.func6, Try.ntmps6
    go_wp2_with fail
    refine ((H1 _).out).mono ?_
    rintro e w1 ⟨rfl, u1⟩
    have hB_a1 : Blk w1 (w.heap.size) #[.int .u64 r, .int .u64 b, .int .u64 t] 24 := ((Blk.new _ _ _).alloc _).kept u1 id
    have hB_c1 : Blk w1 (w.heap.size + 1) #[.int .u64 r, .int .u64 b, .int .u64 t] 25 := (Blk.new2 _ _ _ _).kept u1 id
    have hU1 : Upd Nowhere w w1 := (((Upd.refl _ _).alloc _).alloc _).trans u1 (fun _ _ h => h)
    obtain ⟨c_a0, c_a1, c_a2, z_a0, z_a1, z_a2⟩ := cells3 (hB_a1)
    obtain ⟨c_c0, c_c1, c_c2, z_c0, z_c1, z_c2⟩ := cells3 (hB_c1)
    have l_a1 := hB_a1.lt
    have l_c1 := hB_c1.lt
    go_wp2_with fail
    refine ((H2 _).out).mono ?_
    rintro e w2 ⟨rfl, u2⟩
    clear c_a0 c_a1 c_a2 z_a0 z_a1 z_a2
    clear c_c0 c_c1 c_c2 z_c0 z_c1 z_c2
    have hB_a2 : Blk w2 (w.heap.size) #[.int .u64 r, .int .u64 b, .int .u64 t] 24 := (hB_a1).kept u2 id
    have hB_c2 : Blk w2 (w.heap.size + 1) #[.int .u64 r, .int .u64 b, .int .u64 t] 25 := (hB_c1).kept u2 id
    have hU2 : Upd Nowhere w w2 := (hU1).trans u2 (fun _ _ h => h)
    clear u1
    obtain ⟨c_a0, c_a1, c_a2, z_a0, z_a1, z_a2⟩ := cells3 (hB_a2)
    obtain ⟨c_c0, c_c1, c_c2, z_c0, z_c1, z_c2⟩ := cells3 (hB_c2)
    have l_a2 := hB_a2.lt
    have l_c2 := hB_c2.lt
    clear l_a1 l_c1
    go_wp2_with fail
    refine ((H3 _).out).mono ?_
    rintro e w3 ⟨rfl, u3⟩
    clear c_a0 c_a1 c_a2 z_a0 z_a1 z_a2
    clear c_c0 c_c1 c_c2 z_c0 z_c1 z_c2
    have hB_a3 : Blk w3 (w.heap.size) #[.int .u64 r, .int .u64 b, .int .u64 t] 24 := (hB_a2).kept u3 id
    have hB_c3 : Blk w3 (w.heap.size + 1) #[.int .u64 r, .int .u64 b, .int .u64 t] 25 := (hB_c2).kept u3 id
    have hU3 : Upd Nowhere w w3 := (hU2).trans u3 (fun _ _ h => h)
    clear u2
    obtain ⟨c_a0, c_a1, c_a2, z_a0, z_a1, z_a2⟩ := cells3 (hB_a3)
    obtain ⟨c_c0, c_c1, c_c2, z_c0, z_c1, z_c2⟩ := cells3 (hB_c3)
    have l_a3 := hB_a3.lt
    have l_c3 := hB_c3.lt
    clear l_a2 l_c2
    go_wp2_with fail
    refine ((H4 _).out).mono ?_
    rintro e w4 ⟨rfl, u4⟩
    clear c_a0 c_a1 c_a2 z_a0 z_a1 z_a2
    clear c_c0 c_c1 c_c2 z_c0 z_c1 z_c2
    have hB_a4 : Blk w4 (w.heap.size) #[.int .u64 r, .int .u64 b, .int .u64 t] 24 := (hB_a3).kept u4 id
    have hB_c4 : Blk w4 (w.heap.size + 1) #[.int .u64 r, .int .u64 b, .int .u64 t] 25 := (hB_c3).kept u4 id
    have hU4 : Upd Nowhere w w4 := (hU3).trans u4 (fun _ _ h => h)
    clear u3
    obtain ⟨c_a0, c_a1, c_a2, z_a0, z_a1, z_a2⟩ := cells3 (hB_a4)
    obtain ⟨c_c0, c_c1, c_c2, z_c0, z_c1, z_c2⟩ := cells3 (hB_c4)
    have l_a4 := hB_a4.lt
    have l_c4 := hB_c4.lt
    clear l_a3 l_c3
    go_wp2_with fail
    refine ((HL _).out).mono ?_
    rintro e w5 ⟨rfl, u5⟩
    clear c_a0 c_a1 c_a2 z_a0 z_a1 z_a2
    clear c_c0 c_c1 c_c2 z_c0 z_c1 z_c2
    have hB_a5 : Blk w5 (w.heap.size) #[.int .u64 r, .int .u64 b, .int .u64 t] 24 := (hB_a4.alloc _).kept u5 id
    have hB_c5 : Blk w5 (w.heap.size + 1) #[.int .u64 r, .int .u64 b, .int .u64 t] 25 := (hB_c4.alloc _).kept u5 id
    have hB_d5 : Blk w5 (w4.heap.size) #[.int .u64 r, .int .u64 b, .int .u64 d] 25 := (Blk.new _ _ _).kept u5 id
    have hU5 : Upd Nowhere w w5 := ((hU4).alloc _).trans u5 (fun _ _ h => h)
    clear u4
    obtain ⟨c_a0, c_a1, c_a2, z_a0, z_a1, z_a2⟩ := cells3 (hB_a5)
    obtain ⟨c_c0, c_c1, c_c2, z_c0, z_c1, z_c2⟩ := cells3 (hB_c5)
    obtain ⟨c_d0, c_d1, c_d2, z_d0, z_d1, z_d2⟩ := cells3 (hB_d5)
    have l_a5 := hB_a5.lt
    have l_c5 := hB_c5.lt
    have l_d5 := hB_d5.lt
    clear l_a4 l_c4
    go_wp2_with fail
    go_ret
    exact ⟨rfl, hU5⟩
  · have tn : decide (n ≤ t) = false := decide_eq_false (fun h => by have := hv.2 h; omega)
    have h5 := H5 hpos
    have h6 := H6 hpos
    have ev : ((v : Int) == 0) = false := by simp; omega
    have ew : IntKind.u64.wrap ((v : Int) - 1) = ((v - 1 : Nat) : Int) := by rw [IntKind.wrap_u64]; omega
    generalize v - 1 = v' at *
    clear hv H5 H6 hn bv
    go_enter Try.func6, Try.ntmps6
    go_wp2_with fail
    refine ((H1 _).out).mono ?_
    rintro e w1 ⟨rfl, u1⟩
    have hB_a1 : Blk w1 (w.heap.size) #[.int .u64 r, .int .u64 b, .int .u64 t] 24 := ((Blk.new _ _ _).alloc _).kept u1 id
    have hB_c1 : Blk w1 (w.heap.size + 1) #[.int .u64 r, .int .u64 b, .int .u64 t] 25 := (Blk.new2 _ _ _ _).kept u1 id
    have hU1 : Upd Nowhere w w1 := (((Upd.refl _ _).alloc _).alloc _).trans u1 (fun _ _ h => h)
    obtain ⟨c_a0, c_a1, c_a2, z_a0, z_a1, z_a2⟩ := cells3 (hB_a1)
    obtain ⟨c_c0, c_c1, c_c2, z_c0, z_c1, z_c2⟩ := cells3 (hB_c1)
    have l_a1 := hB_a1.lt
    have l_c1 := hB_c1.lt
    go_wp2_with fail
    refine ((H2 _).out).mono ?_
    rintro e w2 ⟨rfl, u2⟩
    clear c_a0 c_a1 c_a2 z_a0 z_a1 z_a2
    clear c_c0 c_c1 c_c2 z_c0 z_c1 z_c2
    have hB_a2 : Blk w2 (w.heap.size) #[.int .u64 r, .int .u64 b, .int .u64 t] 24 := (hB_a1).kept u2 id
    have hB_c2 : Blk w2 (w.heap.size + 1) #[.int .u64 r, .int .u64 b, .int .u64 t] 25 := (hB_c1).kept u2 id
    have hU2 : Upd Nowhere w w2 := (hU1).trans u2 (fun _ _ h => h)
    clear u1
    obtain ⟨c_a0, c_a1, c_a2, z_a0, z_a1, z_a2⟩ := cells3 (hB_a2)
    obtain ⟨c_c0, c_c1, c_c2, z_c0, z_c1, z_c2⟩ := cells3 (hB_c2)
    have l_a2 := hB_a2.lt
    have l_c2 := hB_c2.lt
    clear l_a1 l_c1
    go_wp2_with fail
    refine ((H3 _).out).mono ?_
    rintro e w3 ⟨rfl, u3⟩
    clear c_a0 c_a1 c_a2 z_a0 z_a1 z_a2
    clear c_c0 c_c1 c_c2 z_c0 z_c1 z_c2
    have hB_a3 : Blk w3 (w.heap.size) #[.int .u64 r, .int .u64 b, .int .u64 t] 24 := (hB_a2).kept u3 id
    have hB_c3 : Blk w3 (w.heap.size + 1) #[.int .u64 r, .int .u64 b, .int .u64 t] 25 := (hB_c2).kept u3 id
    have hU3 : Upd Nowhere w w3 := (hU2).trans u3 (fun _ _ h => h)
    clear u2
    obtain ⟨c_a0, c_a1, c_a2, z_a0, z_a1, z_a2⟩ := cells3 (hB_a3)
    obtain ⟨c_c0, c_c1, c_c2, z_c0, z_c1, z_c2⟩ := cells3 (hB_c3)
    have l_a3 := hB_a3.lt
    have l_c3 := hB_c3.lt
    clear l_a2 l_c2
    go_wp2_with fail
    refine ((H4 _).out).mono ?_
    rintro e w4 ⟨rfl, u4⟩
    clear c_a0 c_a1 c_a2 z_a0 z_a1 z_a2
    clear c_c0 c_c1 c_c2 z_c0 z_c1 z_c2
    have hB_a4 : Blk w4 (w.heap.size) #[.int .u64 r, .int .u64 b, .int .u64 t] 24 := (hB_a3).kept u4 id
    have hB_c4 : Blk w4 (w.heap.size + 1) #[.int .u64 r, .int .u64 b, .int .u64 t] 25 := (hB_c3).kept u4 id
    have hU4 : Upd Nowhere w w4 := (hU3).trans u4 (fun _ _ h => h)
    clear u3
    obtain ⟨c_a0, c_a1, c_a2, z_a0, z_a1, z_a2⟩ := cells3 (hB_a4)
    obtain ⟨c_c0, c_c1, c_c2, z_c0, z_c1, z_c2⟩ := cells3 (hB_c4)
    have l_a4 := hB_a4.lt
    have l_c4 := hB_c4.lt
    clear l_a3 l_c3
    go_wp2_with fail
    refine ((h5 _).out).mono ?_
    rintro e w5 ⟨rfl, u5⟩
    clear c_a0 c_a1 c_a2 z_a0 z_a1 z_a2
    clear c_c0 c_c1 c_c2 z_c0 z_c1 z_c2
    have hB_a5 : Blk w5 (w.heap.size) #[.int .u64 r, .int .u64 b, .int .u64 t] 24 := (hB_a4.alloc _).kept u5 id
    have hB_c5 : Blk w5 (w.heap.size + 1) #[.int .u64 r, .int .u64 b, .int .u64 t] 25 := (hB_c4.alloc _).kept u5 id
    have hB_d5 : Blk w5 (w4.heap.size) #[.int .u64 r, .int .u64 b, .int .u64 d] 25 := (Blk.new _ _ _).kept u5 id
    have hU5 : Upd Nowhere w w5 := ((hU4).alloc _).trans u5 (fun _ _ h => h)
    clear u4
    obtain ⟨c_a0, c_a1, c_a2, z_a0, z_a1, z_a2⟩ := cells3 (hB_a5)
    obtain ⟨c_c0, c_c1, c_c2, z_c0, z_c1, z_c2⟩ := cells3 (hB_c5)
    obtain ⟨c_d0, c_d1, c_d2, z_d0, z_d1, z_d2⟩ := cells3 (hB_d5)
    have l_a5 := hB_a5.lt
    have l_c5 := hB_c5.lt
    have l_d5 := hB_d5.lt
    clear l_a4 l_c4
    go_wp2_with fail
    refine ((h6 _).out).mono ?_
    rintro e w6 ⟨rfl, u6⟩
    clear c_a0 c_a1 c_a2 z_a0 z_a1 z_a2
    clear c_c0 c_c1 c_c2 z_c0 z_c1 z_c2
    clear c_d0 c_d1 c_d2 z_d0 z_d1 z_d2
    have hB_a6 : Blk w6 (w.heap.size) #[.int .u64 r, .int .u64 b, .int .u64 t] 24 := (hB_a5).kept u6 id
    have hB_c6 : Blk w6 (w.heap.size + 1) #[.int .u64 r, .int .u64 b, .int .u64 t] 25 := (hB_c5).kept u6 id
    have hB_d6 : Blk w6 (w4.heap.size) #[.int .u64 r, .int .u64 b, .int .u64 d] 25 := (hB_d5).kept u6 id
    have hU6 : Upd Nowhere w w6 := (hU5).trans u6 (fun _ _ h => h)
    clear u5
    obtain ⟨c_a0, c_a1, c_a2, z_a0, z_a1, z_a2⟩ := cells3 (hB_a6)
    obtain ⟨c_c0, c_c1, c_c2, z_c0, z_c1, z_c2⟩ := cells3 (hB_c6)
    obtain ⟨c_d0, c_d1, c_d2, z_d0, z_d1, z_d2⟩ := cells3 (hB_d6)
    have l_a6 := hB_a6.lt
    have l_c6 := hB_c6.lt
    have l_d6 := hB_d6.lt
    clear l_a5 l_c5 l_d5
    go_wp2_with fail
    refine ((HL _).out).mono ?_
    rintro e w7 ⟨rfl, u7⟩
    clear c_a0 c_a1 c_a2 z_a0 z_a1 z_a2
    clear c_c0 c_c1 c_c2 z_c0 z_c1 z_c2
    clear c_d0 c_d1 c_d2 z_d0 z_d1 z_d2
    have hB_a7 : Blk w7 (w.heap.size) #[.int .u64 r, .int .u64 b, .int .u64 t] 24 := (hB_a6.alloc _).kept u7 id
    have hB_c7 : Blk w7 (w.heap.size + 1) #[.int .u64 r, .int .u64 b, .int .u64 t] 25 := (hB_c6.alloc _).kept u7 id
    have hB_d7 : Blk w7 (w4.heap.size) #[.int .u64 r, .int .u64 b, .int .u64 d] 25 := (hB_d6.alloc _).kept u7 id
    have hB_e7 : Blk w7 (w6.heap.size) #[.int .u64 r, .int .u64 b, .int .u64 t2] 25 := (Blk.new _ _ _).kept u7 id
    have hU7 : Upd Nowhere w w7 := ((hU6).alloc _).trans u7 (fun _ _ h => h)
    clear u6
    obtain ⟨c_a0, c_a1, c_a2, z_a0, z_a1, z_a2⟩ := cells3 (hB_a7)
    obtain ⟨c_c0, c_c1, c_c2, z_c0, z_c1, z_c2⟩ := cells3 (hB_c7)
    obtain ⟨c_d0, c_d1, c_d2, z_d0, z_d1, z_d2⟩ := cells3 (hB_d7)
    obtain ⟨c_e0, c_e1, c_e2, z_e0, z_e1, z_e2⟩ := cells3 (hB_e7)
    have l_a7 := hB_a7.lt
    have l_c7 := hB_c7.lt
    have l_d7 := hB_d7.lt
    have l_e7 := hB_e7.lt
    clear l_a6 l_c6 l_d6
    go_wp2_with fail
    go_ret
    exact ⟨rfl, hU7⟩
theorem ups_facts (r t n : Nat) (hr : 0 < r) (hn : n ≤ 18446744073709551615) (v : Nat) (hv : ups (n - t) r = v) : (v = 0 ↔ n ≤ t) ∧ n ≤ t + r * v ∧ (0 < v → t + r * (v - 1) < n) ∧ v ≤ 18446744073709551615 := by
  unfold ups at hv
  rcases Nat.lt_or_ge t n with h | h
  · rw [if_neg (by omega), if_neg (by omega)] at hv
    have h1 := Nat.div_add_mod (n - t - 1) r
    have h2 := Nat.mod_lt (n - t - 1) hr
    have h3 : (n - t - 1) / r ≤ n - t - 1 := Nat.div_le_self _ _
    subst hv
    generalize (n - t - 1) / r = q at *
    rw [Nat.mul_add, Nat.mul_one, Nat.add_sub_cancel]
    omega
  · rw [if_pos (by omega)] at hv
    omega
theorem waits_law (r b t n : Nat) (hr : r ≤ 18446744073709551615) (hb : b ≤ 18446744073709551615) (w : World) :
    Calls Try.prog 6 #[.agg #[.int .u64 r, .int .u64 b, .int .u64 t], .int .u64 n] w fun e w' => e = .returned (.bool true) ∧ Upd Nowhere w w' := by
  by_cases hc : chk r b t = 0
  · have hcheck := fun u => rcheck_any r b t u
    rw [hc] at hcheck
    rcases Nat.lt_or_ge b n with h | h
    · exact waits_no r b t n 0 (.inr ⟨rfl, h⟩) w (fun u => Lib.hid (wait_far r b t n hc h u)) (fun u => Lib.hid (hcheck u))
    · obtain ⟨k1, k2, _⟩ := chk_ok.1 hc
      obtain ⟨v, hv⟩ : ∃ v, ups (n - t) r = v := ⟨_, rfl⟩
      obtain ⟨g1, g2, g3, g4⟩ := ups_facts r t n k1 (by omega) v hv
      have hwait := fun u => wait_ok r b t n hr hb hc h u
      rw [hv] at hwait
      refine waits_yes r b t n v (min (t + r * v) b) (min (t + r * (v - 1)) b) (min (t + r * v) b - n) h g4 g1 w (fun u => Lib.hid (hwait u)) (fun u => Lib.hid (hcheck u)) (fun u => Lib.hid (tick_ok r b t v hr hb g4 hc u))
        (fun u => Lib.hid (take_yes r b _ n (chk_ok.2 ⟨k1, k2, Nat.min_le_right _ _⟩) (by omega) (by omega) u)) (fun hp u => Lib.hid (tick_ok r b t (v - 1) hr hb (by omega) hc u))
        (fun hp u => Lib.hid (take_less r b _ n (chk_ok.2 ⟨k1, k2, Nat.min_le_right _ _⟩) (by have := g3 hp; omega) u))
  · exact waits_no r b t n (chk r b t) (.inl hc) w (fun u => Lib.hid (wait_no r b t n hc u)) (fun u => Lib.hid (rcheck_any r b t u))
end Go.Proofs.Ytgmiggnlhcldlaa.Bucket
