/- BucketTells. -/
import Derived.Test.YtgmiggnlhcldlaaBucketLaws
namespace Go.Proofs.Ytgmiggnlhcldlaa.Bucket
open Go.RowKit Go.Proofs BigFrame
open Wide (Gives)
open Sat (ups)
set_option maxHeartbeats 2000000
set_option maxRecDepth 100000
theorem tells_walk1 (r b t k n p0 p1 p2 v c x0 x1 x2 : Nat) (q z : Bool) (w : World)
    (H1 : ∀ u, Hid (Calls Try.prog 13 #[.agg #[.int .u64 r, .int .u64 b, .int .u64 t], .int .u64 n] u fun e w' => Gives u (.tuple #[.agg #[.int .u64 (p0 : Nat), .int .u64 (p1 : Nat), .int .u64 (p2 : Nat)], .bool q]) e w'))
    (H2 : ∀ u, Hid (Calls Try.prog 14 #[.agg #[.int .u64 r, .int .u64 b, .int .u64 t], .int .u64 n] u fun e w' => Gives u (.tuple #[.agg #[.int .u64 (p0 : Nat), .int .u64 (p1 : Nat), .int .u64 (p2 : Nat)], .bool q]) e w'))
    (H3 : ∀ u, Hid (Calls Try.prog 15 #[.agg #[.int .u64 r, .int .u64 b, .int .u64 t], .int .u64 n] u fun e w' => Gives u (.tuple #[.int .u64 v, .bool z]) e w'))
    (H4 : ∀ u, Hid (Calls Try.prog 16 #[.agg #[.int .u64 r, .int .u64 b, .int .u64 t], .int .u64 n] u fun e w' => Gives u (.tuple #[.int .u64 v, .bool z]) e w'))
    (H5 : ∀ u, Hid (Calls Try.prog 17 #[.int .u64 r, .int .u64 b] u fun e w' => Gives u (.tuple #[.agg #[.int .u64 r, .int .u64 b, .int .u64 b], .int .i64 0]) e w'))
    (H6 : ∀ u, Hid (Calls Try.prog 18 #[.agg #[.int .u64 r, .int .u64 b, .int .u64 0]] u fun e w' => Gives u (.int .i64 0) e w'))
    (H7 : ∀ u, Hid (Calls Try.prog 19 #[.agg #[.int .u64 r, .int .u64 b, .int .u64 t]] u fun e w' => Gives u (.int .i64 c) e w'))
    (H8 : ∀ u, Hid (Calls Try.prog 18 #[.agg #[.int .u64 r, .int .u64 b, .int .u64 t]] u fun e w' => Gives u (.int .i64 c) e w'))
    (H9 : ∀ u, Hid (Calls Try.prog 20 #[.agg #[.int .u64 r, .int .u64 b, .int .u64 t], .int .u64 k] u fun e w' => Gives u (.agg #[.int .u64 x0, .int .u64 x1, .int .u64 x2]) e w'))
    (H10 : ∀ u, Hid (Calls Try.prog 21 #[.agg #[.int .u64 r, .int .u64 b, .int .u64 t], .int .u64 k] u fun e w' => Gives u (.agg #[.int .u64 x0, .int .u64 x1, .int .u64 x2]) e w')) :
    Calls Try.prog 3 #[.agg #[.int .u64 r, .int .u64 b, .int .u64 t], .int .u64 k, .int .u64 n] w fun e w' => e = .returned (.bool true) ∧ Upd Nowhere w w' := by
  have HL := fun u => Lib.hid (lives u)
  go_enter Try.func3, Try.ntmps3
  go_wp2_with fail
  refine ((H1 _).out).mono ?_
  rintro e w1 ⟨rfl, u1⟩
  have hB_a1 : Blk w1 (w.heap.size) #[.int .u64 r, .int .u64 b, .int .u64 t] 24 := ((Blk.new _ _ _).alloc _).kept u1 id
  have hB_c1 : Blk w1 (w.heap.size + 1) #[.int .u64 r, .int .u64 b, .int .u64 t] 25 := (Blk.new2 _ _ _ _).kept u1 id
  have hU1 : Upd Nowhere w w1 := (((Upd.refl _ _).alloc _).alloc _).trans u1 (fun _ _ h => h)
  obtain ⟨c_a0, c_a1, c_a2, z_a0, z_a1, z_a2⟩ := cells3 (hB_a1)
  obtain ⟨c_c0, c_c1, c_c2, z_c0, z_c1, z_c2⟩ := cells3 (hB_c1)
  have l_a1 := hB_a1.lt
  have l_c1 := hB_c1.lt
  go_wp2_with fail
  refine ((H2 _).out).mono ?_
  rintro e w2 ⟨rfl, u2⟩
  clear c_a0 c_a1 c_a2 z_a0 z_a1 z_a2
  clear c_c0 c_c1 c_c2 z_c0 z_c1 z_c2
  have hB_a2 : Blk w2 (w.heap.size) #[.int .u64 r, .int .u64 b, .int .u64 t] 24 := (hB_a1.alloc _).kept u2 id
  have hB_c2 : Blk w2 (w.heap.size + 1) #[.int .u64 r, .int .u64 b, .int .u64 t] 25 := (hB_c1.alloc _).kept u2 id
  have hB_d2 : Blk w2 (w1.heap.size) #[.int .u64 p0, .int .u64 p1, .int .u64 p2] 25 := (Blk.new _ _ _).kept u2 id
  have hU2 : Upd Nowhere w w2 := ((hU1).alloc _).trans u2 (fun _ _ h => h)
  clear u1
  obtain ⟨c_a0, c_a1, c_a2, z_a0, z_a1, z_a2⟩ := cells3 (hB_a2)
  obtain ⟨c_c0, c_c1, c_c2, z_c0, z_c1, z_c2⟩ := cells3 (hB_c2)
  obtain ⟨c_d0, c_d1, c_d2, z_d0, z_d1, z_d2⟩ := cells3 (hB_d2)
  have l_a2 := hB_a2.lt
  have l_c2 := hB_c2.lt
  have l_d2 := hB_d2.lt
  clear l_a1 l_c1
  go_wp2_with fail
  refine ((H3 _).out).mono ?_
  rintro e w3 ⟨rfl, u3⟩
  clear c_a0 c_a1 c_a2 z_a0 z_a1 z_a2
  clear c_c0 c_c1 c_c2 z_c0 z_c1 z_c2
  clear c_d0 c_d1 c_d2 z_d0 z_d1 z_d2
  have hB_a3 : Blk w3 (w.heap.size) #[.int .u64 r, .int .u64 b, .int .u64 t] 24 := (hB_a2.alloc _).kept u3 id
  have hB_c3 : Blk w3 (w.heap.size + 1) #[.int .u64 r, .int .u64 b, .int .u64 t] 25 := (hB_c2.alloc _).kept u3 id
  have hB_d3 : Blk w3 (w1.heap.size) #[.int .u64 p0, .int .u64 p1, .int .u64 p2] 25 := (hB_d2.alloc _).kept u3 id
  have hB_e3 : Blk w3 (w2.heap.size) #[.int .u64 p0, .int .u64 p1, .int .u64 p2] 24 := (Blk.new _ _ _).kept u3 id
  have hU3 : Upd Nowhere w w3 := ((hU2).alloc _).trans u3 (fun _ _ h => h)
  clear u2
  obtain ⟨c_a0, c_a1, c_a2, z_a0, z_a1, z_a2⟩ := cells3 (hB_a3)
  obtain ⟨c_c0, c_c1, c_c2, z_c0, z_c1, z_c2⟩ := cells3 (hB_c3)
  obtain ⟨c_d0, c_d1, c_d2, z_d0, z_d1, z_d2⟩ := cells3 (hB_d3)
  obtain ⟨c_e0, c_e1, c_e2, z_e0, z_e1, z_e2⟩ := cells3 (hB_e3)
  have l_a3 := hB_a3.lt
  have l_c3 := hB_c3.lt
  have l_d3 := hB_d3.lt
  have l_e3 := hB_e3.lt
  clear l_a2 l_c2 l_d2
  go_wp2_with fail
  refine ((H4 _).out).mono ?_
  rintro e w4 ⟨rfl, u4⟩
  clear c_a0 c_a1 c_a2 z_a0 z_a1 z_a2
  clear c_c0 c_c1 c_c2 z_c0 z_c1 z_c2
  clear c_d0 c_d1 c_d2 z_d0 z_d1 z_d2
  clear c_e0 c_e1 c_e2 z_e0 z_e1 z_e2
  have hB_a4 : Blk w4 (w.heap.size) #[.int .u64 r, .int .u64 b, .int .u64 t] 24 := (hB_a3).kept u4 id
  have hB_c4 : Blk w4 (w.heap.size + 1) #[.int .u64 r, .int .u64 b, .int .u64 t] 25 := (hB_c3).kept u4 id
  have hB_d4 : Blk w4 (w1.heap.size) #[.int .u64 p0, .int .u64 p1, .int .u64 p2] 25 := (hB_d3).kept u4 id
  have hB_e4 : Blk w4 (w2.heap.size) #[.int .u64 p0, .int .u64 p1, .int .u64 p2] 24 := (hB_e3).kept u4 id
  have hU4 : Upd Nowhere w w4 := (hU3).trans u4 (fun _ _ h => h)
  clear u3
  obtain ⟨c_a0, c_a1, c_a2, z_a0, z_a1, z_a2⟩ := cells3 (hB_a4)
  obtain ⟨c_c0, c_c1, c_c2, z_c0, z_c1, z_c2⟩ := cells3 (hB_c4)
  obtain ⟨c_d0, c_d1, c_d2, z_d0, z_d1, z_d2⟩ := cells3 (hB_d4)
  obtain ⟨c_e0, c_e1, c_e2, z_e0, z_e1, z_e2⟩ := cells3 (hB_e4)
  have l_a4 := hB_a4.lt
  have l_c4 := hB_c4.lt
  have l_d4 := hB_d4.lt
  have l_e4 := hB_e4.lt
  clear l_a3 l_c3 l_d3 l_e3
  go_wp2_with fail
  refine ((H5 _).out).mono ?_
  rintro e w5 ⟨rfl, u5⟩
  clear c_a0 c_a1 c_a2 z_a0 z_a1 z_a2
  clear c_c0 c_c1 c_c2 z_c0 z_c1 z_c2
  clear c_d0 c_d1 c_d2 z_d0 z_d1 z_d2
  clear c_e0 c_e1 c_e2 z_e0 z_e1 z_e2
  have hB_a5 : Blk w5 (w.heap.size) #[.int .u64 r, .int .u64 b, .int .u64 t] 24 := (hB_a4).kept u5 id
  have hB_c5 : Blk w5 (w.heap.size + 1) #[.int .u64 r, .int .u64 b, .int .u64 t] 25 := (hB_c4).kept u5 id
  have hB_d5 : Blk w5 (w1.heap.size) #[.int .u64 p0, .int .u64 p1, .int .u64 p2] 25 := (hB_d4).kept u5 id
  have hB_e5 : Blk w5 (w2.heap.size) #[.int .u64 p0, .int .u64 p1, .int .u64 p2] 24 := (hB_e4).kept u5 id
  have hU5 : Upd Nowhere w w5 := (hU4).trans u5 (fun _ _ h => h)
  clear u4
  obtain ⟨c_a0, c_a1, c_a2, z_a0, z_a1, z_a2⟩ := cells3 (hB_a5)
  obtain ⟨c_c0, c_c1, c_c2, z_c0, z_c1, z_c2⟩ := cells3 (hB_c5)
  obtain ⟨c_d0, c_d1, c_d2, z_d0, z_d1, z_d2⟩ := cells3 (hB_d5)
  obtain ⟨c_e0, c_e1, c_e2, z_e0, z_e1, z_e2⟩ := cells3 (hB_e5)
  have l_a5 := hB_a5.lt
  have l_c5 := hB_c5.lt
  have l_d5 := hB_d5.lt
  have l_e5 := hB_e5.lt
  clear l_a4 l_c4 l_d4 l_e4
  go_wp2_with fail
  refine ((H6 _).out).mono ?_
  rintro e w6 ⟨rfl, u6⟩
  clear c_a0 c_a1 c_a2 z_a0 z_a1 z_a2
  clear c_c0 c_c1 c_c2 z_c0 z_c1 z_c2
  clear c_d0 c_d1 c_d2 z_d0 z_d1 z_d2
  clear c_e0 c_e1 c_e2 z_e0 z_e1 z_e2
  have hB_a6 : Blk w6 (w.heap.size) #[.int .u64 r, .int .u64 b, .int .u64 t] 24 := (hB_a5.alloc _).kept u6 id
  have hB_c6 : Blk w6 (w.heap.size + 1) #[.int .u64 r, .int .u64 b, .int .u64 t] 25 := (hB_c5.alloc _).kept u6 id
  have hB_d6 : Blk w6 (w1.heap.size) #[.int .u64 p0, .int .u64 p1, .int .u64 p2] 25 := (hB_d5.alloc _).kept u6 id
  have hB_e6 : Blk w6 (w2.heap.size) #[.int .u64 p0, .int .u64 p1, .int .u64 p2] 24 := (hB_e5.alloc _).kept u6 id
  have hB_f6 : Blk w6 (w5.heap.size) #[.int .u64 r, .int .u64 b, .int .u64 b] 25 := (Blk.new _ _ _).kept u6 id
  have hU6 : Upd Nowhere w w6 := ((hU5).alloc _).trans u6 (fun _ _ h => h)
  clear u5
  obtain ⟨c_a0, c_a1, c_a2, z_a0, z_a1, z_a2⟩ := cells3 (hB_a6)
  obtain ⟨c_c0, c_c1, c_c2, z_c0, z_c1, z_c2⟩ := cells3 (hB_c6)
  obtain ⟨c_d0, c_d1, c_d2, z_d0, z_d1, z_d2⟩ := cells3 (hB_d6)
  obtain ⟨c_e0, c_e1, c_e2, z_e0, z_e1, z_e2⟩ := cells3 (hB_e6)
  obtain ⟨c_f0, c_f1, c_f2, z_f0, z_f1, z_f2⟩ := cells3 (hB_f6)
  have l_a6 := hB_a6.lt
  have l_c6 := hB_c6.lt
  have l_d6 := hB_d6.lt
  have l_e6 := hB_e6.lt
  have l_f6 := hB_f6.lt
  clear l_a5 l_c5 l_d5 l_e5
  go_wp2_with fail
  have hS0 : Upd Nowhere w6 w6.drew := (Upd.refl _ _).drew
  go_region_held3 (fun w' => Upd Nowhere w6 w' ∧ w'.cell? ⟨w.heap.size, 0, none⟩ = some (.int .u64 r) ∧ w'.cell? ⟨w.heap.size, 1, none⟩ = some (.int .u64 b) ∧ w'.cell? ⟨w.heap.size, 2, none⟩ = some (.int .u64 t) ∧ w'.cell? ⟨w.heap.size + 1, 0, none⟩ = some (.int .u64 r) ∧ w'.cell? ⟨w.heap.size + 1, 1, none⟩ = some (.int .u64 b) ∧ w'.cell? ⟨w.heap.size + 1, 2, none⟩ = some (.int .u64 t) ∧ w'.cell? ⟨w1.heap.size, 0, none⟩ = some (.int .u64 p0) ∧ w'.cell? ⟨w1.heap.size, 1, none⟩ = some (.int .u64 p1) ∧ w'.cell? ⟨w1.heap.size, 2, none⟩ = some (.int .u64 p2) ∧ w'.cell? ⟨w2.heap.size, 0, none⟩ = some (.int .u64 p0) ∧ w'.cell? ⟨w2.heap.size, 1, none⟩ = some (.int .u64 p1) ∧ w'.cell? ⟨w2.heap.size, 2, none⟩ = some (.int .u64 p2)) (first | exact ⟨hS0, c_a0, c_a1, c_a2, c_c0, c_c1, c_c2, c_d0, c_d1, c_d2, c_e0, c_e1, c_e2⟩ | assumption)
    (first
      | (go_at_call 19; refine (keepC12 (H7 _).out (by assumption)).mono ?_; rintro e w' ⟨rfl, _⟩)
      | (go_at_call 18; refine (keepC12 (H8 _).out (by assumption)).mono ?_; rintro e w' ⟨rfl, _⟩)
      | (go_at_call 20; refine (keepC12 (H9 _).out (by assumption)).mono ?_; rintro e w' ⟨rfl, _⟩)
      | (go_at_call 21; refine (keepC12 (H10 _).out (by assumption)).mono ?_; rintro e w' ⟨rfl, _⟩)
      | (go_at_call 22; refine (keepC12 (HL _).out (by assumption)).mono ?_; rintro e w' ⟨rfl, _⟩))
  rename_i hS
  go_wp2_with fail
  go_ret
  exact ⟨rfl, hU6.trans hS.1 (fun _ _ h => h)⟩
theorem tells_walk0 (r b t k n p0 p1 p2 v c x0 x1 x2 : Nat) (q z : Bool) (c2 : Nat) (hc2 : c2 ≠ 0) (w : World)
    (H1 : ∀ u, Hid (Calls Try.prog 13 #[.agg #[.int .u64 r, .int .u64 b, .int .u64 t], .int .u64 n] u fun e w' => Gives u (.tuple #[.agg #[.int .u64 (p0 : Nat), .int .u64 (p1 : Nat), .int .u64 (p2 : Nat)], .bool q]) e w'))
    (H2 : ∀ u, Hid (Calls Try.prog 14 #[.agg #[.int .u64 r, .int .u64 b, .int .u64 t], .int .u64 n] u fun e w' => Gives u (.tuple #[.agg #[.int .u64 (p0 : Nat), .int .u64 (p1 : Nat), .int .u64 (p2 : Nat)], .bool q]) e w'))
    (H3 : ∀ u, Hid (Calls Try.prog 15 #[.agg #[.int .u64 r, .int .u64 b, .int .u64 t], .int .u64 n] u fun e w' => Gives u (.tuple #[.int .u64 v, .bool z]) e w'))
    (H4 : ∀ u, Hid (Calls Try.prog 16 #[.agg #[.int .u64 r, .int .u64 b, .int .u64 t], .int .u64 n] u fun e w' => Gives u (.tuple #[.int .u64 v, .bool z]) e w'))
    (H5 : ∀ u, Hid (Calls Try.prog 17 #[.int .u64 r, .int .u64 b] u fun e w' => Gives u (.tuple #[.agg #[.int .u64 0, .int .u64 0, .int .u64 0], .int .i64 c2]) e w'))
    (H6 : ∀ u, Hid (Calls Try.prog 18 #[.agg #[.int .u64 r, .int .u64 b, .int .u64 0]] u fun e w' => Gives u (.int .i64 c2) e w'))
    (H7 : ∀ u, Hid (Calls Try.prog 19 #[.agg #[.int .u64 r, .int .u64 b, .int .u64 t]] u fun e w' => Gives u (.int .i64 c) e w'))
    (H8 : ∀ u, Hid (Calls Try.prog 18 #[.agg #[.int .u64 r, .int .u64 b, .int .u64 t]] u fun e w' => Gives u (.int .i64 c) e w'))
    (H9 : ∀ u, Hid (Calls Try.prog 20 #[.agg #[.int .u64 r, .int .u64 b, .int .u64 t], .int .u64 k] u fun e w' => Gives u (.agg #[.int .u64 x0, .int .u64 x1, .int .u64 x2]) e w'))
    (H10 : ∀ u, Hid (Calls Try.prog 21 #[.agg #[.int .u64 r, .int .u64 b, .int .u64 t], .int .u64 k] u fun e w' => Gives u (.agg #[.int .u64 x0, .int .u64 x1, .int .u64 x2]) e w')) :
    Calls Try.prog 3 #[.agg #[.int .u64 r, .int .u64 b, .int .u64 t], .int .u64 k, .int .u64 n] w fun e w' => e = .returned (.bool true) ∧ Upd Nowhere w w' := by
  have HL := fun u => Lib.hid (lives u)
  have ec : ((c2 : Int) == 0) = false := by simp; omega
  have en : ((c2 : Int) != 0) = true := by simp; omega
  clear hc2
  go_enter Try.func3, Try.ntmps3
  go_wp2_with fail
  refine ((H1 _).out).mono ?_
  rintro e w1 ⟨rfl, u1⟩
  have hB_a1 : Blk w1 (w.heap.size) #[.int .u64 r, .int .u64 b, .int .u64 t] 24 := ((Blk.new _ _ _).alloc _).kept u1 id
  have hB_c1 : Blk w1 (w.heap.size + 1) #[.int .u64 r, .int .u64 b, .int .u64 t] 25 := (Blk.new2 _ _ _ _).kept u1 id
  have hU1 : Upd Nowhere w w1 := (((Upd.refl _ _).alloc _).alloc _).trans u1 (fun _ _ h => h)
  obtain ⟨c_a0, c_a1, c_a2, z_a0, z_a1, z_a2⟩ := cells3 (hB_a1)
  obtain ⟨c_c0, c_c1, c_c2, z_c0, z_c1, z_c2⟩ := cells3 (hB_c1)
  have l_a1 := hB_a1.lt
  have l_c1 := hB_c1.lt
  go_wp2_with fail
  refine ((H2 _).out).mono ?_
  rintro e w2 ⟨rfl, u2⟩
  clear c_a0 c_a1 c_a2 z_a0 z_a1 z_a2
  clear c_c0 c_c1 c_c2 z_c0 z_c1 z_c2
  have hB_a2 : Blk w2 (w.heap.size) #[.int .u64 r, .int .u64 b, .int .u64 t] 24 := (hB_a1.alloc _).kept u2 id
  have hB_c2 : Blk w2 (w.heap.size + 1) #[.int .u64 r, .int .u64 b, .int .u64 t] 25 := (hB_c1.alloc _).kept u2 id
  have hB_d2 : Blk w2 (w1.heap.size) #[.int .u64 p0, .int .u64 p1, .int .u64 p2] 25 := (Blk.new _ _ _).kept u2 id
  have hU2 : Upd Nowhere w w2 := ((hU1).alloc _).trans u2 (fun _ _ h => h)
  clear u1
  obtain ⟨c_a0, c_a1, c_a2, z_a0, z_a1, z_a2⟩ := cells3 (hB_a2)
  obtain ⟨c_c0, c_c1, c_c2, z_c0, z_c1, z_c2⟩ := cells3 (hB_c2)
  obtain ⟨c_d0, c_d1, c_d2, z_d0, z_d1, z_d2⟩ := cells3 (hB_d2)
  have l_a2 := hB_a2.lt
  have l_c2 := hB_c2.lt
  have l_d2 := hB_d2.lt
  clear l_a1 l_c1
  go_wp2_with fail
  refine ((H3 _).out).mono ?_
  rintro e w3 ⟨rfl, u3⟩
  clear c_a0 c_a1 c_a2 z_a0 z_a1 z_a2
  clear c_c0 c_c1 c_c2 z_c0 z_c1 z_c2
  clear c_d0 c_d1 c_d2 z_d0 z_d1 z_d2
  have hB_a3 : Blk w3 (w.heap.size) #[.int .u64 r, .int .u64 b, .int .u64 t] 24 := (hB_a2.alloc _).kept u3 id
  have hB_c3 : Blk w3 (w.heap.size + 1) #[.int .u64 r, .int .u64 b, .int .u64 t] 25 := (hB_c2.alloc _).kept u3 id
  have hB_d3 : Blk w3 (w1.heap.size) #[.int .u64 p0, .int .u64 p1, .int .u64 p2] 25 := (hB_d2.alloc _).kept u3 id
  have hB_e3 : Blk w3 (w2.heap.size) #[.int .u64 p0, .int .u64 p1, .int .u64 p2] 24 := (Blk.new _ _ _).kept u3 id
  have hU3 : Upd Nowhere w w3 := ((hU2).alloc _).trans u3 (fun _ _ h => h)
  clear u2
  obtain ⟨c_a0, c_a1, c_a2, z_a0, z_a1, z_a2⟩ := cells3 (hB_a3)
  obtain ⟨c_c0, c_c1, c_c2, z_c0, z_c1, z_c2⟩ := cells3 (hB_c3)
  obtain ⟨c_d0, c_d1, c_d2, z_d0, z_d1, z_d2⟩ := cells3 (hB_d3)
  obtain ⟨c_e0, c_e1, c_e2, z_e0, z_e1, z_e2⟩ := cells3 (hB_e3)
  have l_a3 := hB_a3.lt
  have l_c3 := hB_c3.lt
  have l_d3 := hB_d3.lt
  have l_e3 := hB_e3.lt
  clear l_a2 l_c2 l_d2
  go_wp2_with fail
  refine ((H4 _).out).mono ?_
  rintro e w4 ⟨rfl, u4⟩
  clear c_a0 c_a1 c_a2 z_a0 z_a1 z_a2
  clear c_c0 c_c1 c_c2 z_c0 z_c1 z_c2
  clear c_d0 c_d1 c_d2 z_d0 z_d1 z_d2
  clear c_e0 c_e1 c_e2 z_e0 z_e1 z_e2
  have hB_a4 : Blk w4 (w.heap.size) #[.int .u64 r, .int .u64 b, .int .u64 t] 24 := (hB_a3).kept u4 id
  have hB_c4 : Blk w4 (w.heap.size + 1) #[.int .u64 r, .int .u64 b, .int .u64 t] 25 := (hB_c3).kept u4 id
  have hB_d4 : Blk w4 (w1.heap.size) #[.int .u64 p0, .int .u64 p1, .int .u64 p2] 25 := (hB_d3).kept u4 id
  have hB_e4 : Blk w4 (w2.heap.size) #[.int .u64 p0, .int .u64 p1, .int .u64 p2] 24 := (hB_e3).kept u4 id
  have hU4 : Upd Nowhere w w4 := (hU3).trans u4 (fun _ _ h => h)
  clear u3
  obtain ⟨c_a0, c_a1, c_a2, z_a0, z_a1, z_a2⟩ := cells3 (hB_a4)
  obtain ⟨c_c0, c_c1, c_c2, z_c0, z_c1, z_c2⟩ := cells3 (hB_c4)
  obtain ⟨c_d0, c_d1, c_d2, z_d0, z_d1, z_d2⟩ := cells3 (hB_d4)
  obtain ⟨c_e0, c_e1, c_e2, z_e0, z_e1, z_e2⟩ := cells3 (hB_e4)
  have l_a4 := hB_a4.lt
  have l_c4 := hB_c4.lt
  have l_d4 := hB_d4.lt
  have l_e4 := hB_e4.lt
  clear l_a3 l_c3 l_d3 l_e3
  go_wp2_with fail
  refine ((H5 _).out).mono ?_
  rintro e w5 ⟨rfl, u5⟩
  clear c_a0 c_a1 c_a2 z_a0 z_a1 z_a2
  clear c_c0 c_c1 c_c2 z_c0 z_c1 z_c2
  clear c_d0 c_d1 c_d2 z_d0 z_d1 z_d2
  clear c_e0 c_e1 c_e2 z_e0 z_e1 z_e2
  have hB_a5 : Blk w5 (w.heap.size) #[.int .u64 r, .int .u64 b, .int .u64 t] 24 := (hB_a4).kept u5 id
  have hB_c5 : Blk w5 (w.heap.size + 1) #[.int .u64 r, .int .u64 b, .int .u64 t] 25 := (hB_c4).kept u5 id
  have hB_d5 : Blk w5 (w1.heap.size) #[.int .u64 p0, .int .u64 p1, .int .u64 p2] 25 := (hB_d4).kept u5 id
  have hB_e5 : Blk w5 (w2.heap.size) #[.int .u64 p0, .int .u64 p1, .int .u64 p2] 24 := (hB_e4).kept u5 id
  have hU5 : Upd Nowhere w w5 := (hU4).trans u5 (fun _ _ h => h)
  clear u4
  obtain ⟨c_a0, c_a1, c_a2, z_a0, z_a1, z_a2⟩ := cells3 (hB_a5)
  obtain ⟨c_c0, c_c1, c_c2, z_c0, z_c1, z_c2⟩ := cells3 (hB_c5)
  obtain ⟨c_d0, c_d1, c_d2, z_d0, z_d1, z_d2⟩ := cells3 (hB_d5)
  obtain ⟨c_e0, c_e1, c_e2, z_e0, z_e1, z_e2⟩ := cells3 (hB_e5)
  have l_a5 := hB_a5.lt
  have l_c5 := hB_c5.lt
  have l_d5 := hB_d5.lt
  have l_e5 := hB_e5.lt
  clear l_a4 l_c4 l_d4 l_e4
  go_wp2_with fail
  refine ((H6 _).out).mono ?_
  rintro e w6 ⟨rfl, u6⟩
  clear c_a0 c_a1 c_a2 z_a0 z_a1 z_a2
  clear c_c0 c_c1 c_c2 z_c0 z_c1 z_c2
  clear c_d0 c_d1 c_d2 z_d0 z_d1 z_d2
  clear c_e0 c_e1 c_e2 z_e0 z_e1 z_e2
  have hB_a6 : Blk w6 (w.heap.size) #[.int .u64 r, .int .u64 b, .int .u64 t] 24 := (hB_a5.alloc _).kept u6 id
  have hB_c6 : Blk w6 (w.heap.size + 1) #[.int .u64 r, .int .u64 b, .int .u64 t] 25 := (hB_c5.alloc _).kept u6 id
  have hB_d6 : Blk w6 (w1.heap.size) #[.int .u64 p0, .int .u64 p1, .int .u64 p2] 25 := (hB_d5.alloc _).kept u6 id
  have hB_e6 : Blk w6 (w2.heap.size) #[.int .u64 p0, .int .u64 p1, .int .u64 p2] 24 := (hB_e5.alloc _).kept u6 id
  have hB_f6 : Blk w6 (w5.heap.size) #[.int .u64 0, .int .u64 0, .int .u64 0] 25 := (Blk.new _ _ _).kept u6 id
  have hU6 : Upd Nowhere w w6 := ((hU5).alloc _).trans u6 (fun _ _ h => h)
  clear u5
  obtain ⟨c_a0, c_a1, c_a2, z_a0, z_a1, z_a2⟩ := cells3 (hB_a6)
  obtain ⟨c_c0, c_c1, c_c2, z_c0, z_c1, z_c2⟩ := cells3 (hB_c6)
  obtain ⟨c_d0, c_d1, c_d2, z_d0, z_d1, z_d2⟩ := cells3 (hB_d6)
  obtain ⟨c_e0, c_e1, c_e2, z_e0, z_e1, z_e2⟩ := cells3 (hB_e6)
  obtain ⟨c_f0, c_f1, c_f2, z_f0, z_f1, z_f2⟩ := cells3 (hB_f6)
  have l_a6 := hB_a6.lt
  have l_c6 := hB_c6.lt
  have l_d6 := hB_d6.lt
  have l_e6 := hB_e6.lt
  have l_f6 := hB_f6.lt
  clear l_a5 l_c5 l_d5 l_e5
  go_wp2_with fail
  have hS0 : Upd Nowhere w6 w6.drew := (Upd.refl _ _).drew
  go_region_held3 (fun w' => Upd Nowhere w6 w' ∧ w'.cell? ⟨w.heap.size, 0, none⟩ = some (.int .u64 r) ∧ w'.cell? ⟨w.heap.size, 1, none⟩ = some (.int .u64 b) ∧ w'.cell? ⟨w.heap.size, 2, none⟩ = some (.int .u64 t) ∧ w'.cell? ⟨w.heap.size + 1, 0, none⟩ = some (.int .u64 r) ∧ w'.cell? ⟨w.heap.size + 1, 1, none⟩ = some (.int .u64 b) ∧ w'.cell? ⟨w.heap.size + 1, 2, none⟩ = some (.int .u64 t) ∧ w'.cell? ⟨w1.heap.size, 0, none⟩ = some (.int .u64 p0) ∧ w'.cell? ⟨w1.heap.size, 1, none⟩ = some (.int .u64 p1) ∧ w'.cell? ⟨w1.heap.size, 2, none⟩ = some (.int .u64 p2) ∧ w'.cell? ⟨w2.heap.size, 0, none⟩ = some (.int .u64 p0) ∧ w'.cell? ⟨w2.heap.size, 1, none⟩ = some (.int .u64 p1) ∧ w'.cell? ⟨w2.heap.size, 2, none⟩ = some (.int .u64 p2)) (first | exact ⟨hS0, c_a0, c_a1, c_a2, c_c0, c_c1, c_c2, c_d0, c_d1, c_d2, c_e0, c_e1, c_e2⟩ | assumption)
    (first
      | (go_at_call 19; refine (keepC12 (H7 _).out (by assumption)).mono ?_; rintro e w' ⟨rfl, _⟩)
      | (go_at_call 18; refine (keepC12 (H8 _).out (by assumption)).mono ?_; rintro e w' ⟨rfl, _⟩)
      | (go_at_call 20; refine (keepC12 (H9 _).out (by assumption)).mono ?_; rintro e w' ⟨rfl, _⟩)
      | (go_at_call 21; refine (keepC12 (H10 _).out (by assumption)).mono ?_; rintro e w' ⟨rfl, _⟩)
      | (go_at_call 22; refine (keepC12 (HL _).out (by assumption)).mono ?_; rintro e w' ⟨rfl, _⟩))
  rename_i hS
  go_wp2_with fail
  go_ret
  exact ⟨rfl, hU6.trans hS.1 (fun _ _ h => h)⟩
theorem chk_zero (r b : Nat) : chk r b 0 = chk r b b := by unfold chk; split <;> (try split) <;> (try split) <;> omega
theorem take_both (r b t n : Nat) (ht : t ≤ 18446744073709551615) : ∃ (p0 p1 p2 : Nat) (q : Bool), (∀ u, Hid (Calls Try.prog 13 #[.agg #[.int .u64 r, .int .u64 b, .int .u64 t], .int .u64 n] u fun e w' => Gives u (.tuple #[.agg #[.int .u64 (p0 : Nat), .int .u64 (p1 : Nat), .int .u64 (p2 : Nat)], .bool q]) e w')) ∧ (∀ u, Hid (Calls Try.prog 14 #[.agg #[.int .u64 r, .int .u64 b, .int .u64 t], .int .u64 n] u fun e w' => Gives u (.tuple #[.agg #[.int .u64 (p0 : Nat), .int .u64 (p1 : Nat), .int .u64 (p2 : Nat)], .bool q]) e w')) := by
  by_cases hc : chk r b t = 0
  · rcases Nat.lt_or_ge t n with h | h
    · exact ⟨r, b, t, false, fun u => Lib.hid (take_less r b t n hc h u), fun u => Lib.hid (rtake_less r b t n hc h u)⟩
    · exact ⟨r, b, t - n, true, fun u => Lib.hid (take_yes r b t n hc ht h u), fun u => Lib.hid (rtake_yes r b t n hc ht h u)⟩
  · exact ⟨0, 0, 0, false, fun u => Lib.hid (take_no r b t n hc u), fun u => Lib.hid (rtake_no r b t n hc u)⟩
theorem wait_both (r b t n : Nat) (hr : r ≤ 18446744073709551615) (hb : b ≤ 18446744073709551615) : ∃ (v : Nat) (z : Bool), (∀ u, Hid (Calls Try.prog 15 #[.agg #[.int .u64 r, .int .u64 b, .int .u64 t], .int .u64 n] u fun e w' => Gives u (.tuple #[.int .u64 (v : Nat), .bool z]) e w')) ∧ (∀ u, Hid (Calls Try.prog 16 #[.agg #[.int .u64 r, .int .u64 b, .int .u64 t], .int .u64 n] u fun e w' => Gives u (.tuple #[.int .u64 (v : Nat), .bool z]) e w')) := by
  by_cases hc : chk r b t = 0
  · rcases Nat.lt_or_ge b n with h | h
    · exact ⟨0, false, fun u => Lib.hid (wait_far r b t n hc h u), fun u => Lib.hid (rwait_far r b t n hc h u)⟩
    · exact ⟨ups (n - t) r, true, fun u => Lib.hid (wait_ok r b t n hr hb hc h u), fun u => Lib.hid (rwait_ok r b t n hr hb hc h u)⟩
  · exact ⟨0, false, fun u => Lib.hid (wait_no r b t n hc u), fun u => Lib.hid (rwait_no r b t n hc u)⟩
theorem tick_both (r b t k : Nat) (hr : r ≤ 18446744073709551615) (hb : b ≤ 18446744073709551615) (hk : k ≤ 18446744073709551615) : ∃ x0 x1 x2 : Nat, (∀ u, Hid (Calls Try.prog 20 #[.agg #[.int .u64 r, .int .u64 b, .int .u64 t], .int .u64 k] u fun e w' => Gives u (.agg #[.int .u64 (x0 : Nat), .int .u64 (x1 : Nat), .int .u64 (x2 : Nat)]) e w')) ∧ (∀ u, Hid (Calls Try.prog 21 #[.agg #[.int .u64 r, .int .u64 b, .int .u64 t], .int .u64 k] u fun e w' => Gives u (.agg #[.int .u64 (x0 : Nat), .int .u64 (x1 : Nat), .int .u64 (x2 : Nat)]) e w')) := by
  by_cases hc : chk r b t = 0
  · exact ⟨r, b, min (t + r * k) b, fun u => Lib.hid (tick_ok r b t k hr hb hk hc u), fun u => Lib.hid (rtick_ok r b t k hr hb hk hc u)⟩
  · exact ⟨0, 0, 0, fun u => Lib.hid (tick_no r b t k hc u), fun u => Lib.hid (rtick_no r b t k hc u)⟩
theorem tells_law (r b t k n : Nat) (hr : r ≤ 18446744073709551615) (hb : b ≤ 18446744073709551615) (ht : t ≤ 18446744073709551615) (hk : k ≤ 18446744073709551615) (w : World) :
    Calls Try.prog 3 #[.agg #[.int .u64 r, .int .u64 b, .int .u64 t], .int .u64 k, .int .u64 n] w fun e w' => e = .returned (.bool true) ∧ Upd Nowhere w w' := by
  obtain ⟨p0, p1, p2, q, h1, h2⟩ := take_both r b t n ht
  obtain ⟨v, z, h3, h4⟩ := wait_both r b t n hr hb
  obtain ⟨x0, x1, x2, h9, h10⟩ := tick_both r b t k hr hb hk
  by_cases hc2 : chk r b b = 0
  · exact tells_walk1 r b t k n p0 p1 p2 v (chk r b t) x0 x1 x2 q z w h1 h2 h3 h4 (fun u => Lib.hid (new_ok r b hc2 u)) (fun u => Lib.hid (by have := rcheck_any r b 0 u; rw [chk_zero, hc2] at this; exact this))
      (fun u => Lib.hid (check_any r b t u)) (fun u => Lib.hid (rcheck_any r b t u)) h9 h10
  · exact tells_walk0 r b t k n p0 p1 p2 v (chk r b t) x0 x1 x2 q z (chk r b b) hc2 w h1 h2 h3 h4 (fun u => Lib.hid (new_no r b hc2 u)) (fun u => Lib.hid (by have := rcheck_any r b 0 u; rw [chk_zero] at this; exact this))
      (fun u => Lib.hid (check_any r b t u)) (fun u => Lib.hid (rcheck_any r b t u)) h9 h10
end Go.Proofs.Ytgmiggnlhcldlaa.Bucket
