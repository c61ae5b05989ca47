/- bucket: New, the examples; BucketTells, BucketCut, BucketWaits. -/
import Derived.Test.YtgmiggnlhcldlaaBucket2
namespace Go.Proofs.Ytgmiggnlhcldlaa.Bucket
open Go.RowKit Go.Proofs BigFrame
open Wide (Gives)
open Sat (ups)
set_option maxHeartbeats 1000000
set_option maxRecDepth 100000
theorem new_ok (r b : Nat) (hc : chk r b b = 0) (w : World) : Calls Try.prog 17 #[.int .u64 r, .int .u64 b] w fun e w' => Gives w (.tuple #[.agg #[.int .u64 r, .int .u64 b, .int .u64 b], .int .i64 0]) e w' := by
  have h1 := fun u => check_any r b b u
  rw [hc] at h1
  have H1 := fun u => Lib.hid (h1 u)
  clear h1 hc
  go_enter Try.func17, Try.ntmps17
  go_wp2_with fail
  refine ((H1 _).out).mono ?_
  rintro e w1 ⟨rfl, u1⟩
  have hB_x1 : Blk w1 (w.heap.size) #[.int .u64 0, .int .u64 0, .int .u64 0] 25 := ((Blk.new _ _ _).alloc _).kept u1 id
  have hB_y1 : Blk w1 (w.heap.size + 1) #[.int .u64 r, .int .u64 b, .int .u64 b] 25 := (Blk.new2 _ _ _ _).kept u1 id
  have hU1 : Upd Nowhere w w1 := (((Upd.refl _ _).alloc _).alloc _).trans u1 (fun _ _ h => h)
  obtain ⟨c_x0, c_x1, c_x2, z_x0, z_x1, z_x2⟩ := cells3 (hB_x1)
  obtain ⟨c_y0, c_y1, c_y2, z_y0, z_y1, z_y2⟩ := cells3 (hB_y1)
  have l_x1 := hB_x1.lt
  have l_y1 := hB_y1.lt
  go_wp2_with fail
  exact bodyPost_ret (v := .tuple #[.agg #[.int .u64 r, .int .u64 b, .int .u64 b], .int .i64 0]) (by simp [results, Try.results17, go_sem, c_x0, c_x1, c_x2]) rfl ⟨rfl, by repeat (first | exact hU1 | refine Upd.setNew ?_ (by first | exact Nat.le_refl _ | exact Nat.le_succ _ | (simp; done) | omega) _ | refine Upd.drewN ?_ _ | refine Upd.alloc ?_ _)⟩
theorem new_no (r b : Nat) (hc : chk r b b ≠ 0) (w : World) : Calls Try.prog 17 #[.int .u64 r, .int .u64 b] w fun e w' => Gives w (.tuple #[.agg #[.int .u64 0, .int .u64 0, .int .u64 0], .int .i64 (chk r b b : Nat)]) e w' := by
  have H1 := fun u => Lib.hid (check_any r b b u)
  generalize chk r b b = c at *
  have ec : ((c : Int) == 0) = false := by simp; omega
  have en : ((c : Int) != 0) = true := by simp; omega
  clear hc
  go_enter Try.func17, Try.ntmps17
  go_wp2_with fail
  refine ((H1 _).out).mono ?_
  rintro e w1 ⟨rfl, u1⟩
  have hB_x1 : Blk w1 (w.heap.size) #[.int .u64 0, .int .u64 0, .int .u64 0] 25 := ((Blk.new _ _ _).alloc _).kept u1 id
  have hB_y1 : Blk w1 (w.heap.size + 1) #[.int .u64 r, .int .u64 b, .int .u64 b] 25 := (Blk.new2 _ _ _ _).kept u1 id
  have hU1 : Upd Nowhere w w1 := (((Upd.refl _ _).alloc _).alloc _).trans u1 (fun _ _ h => h)
  obtain ⟨c_x0, c_x1, c_x2, z_x0, z_x1, z_x2⟩ := cells3 (hB_x1)
  obtain ⟨c_y0, c_y1, c_y2, z_y0, z_y1, z_y2⟩ := cells3 (hB_y1)
  have l_x1 := hB_x1.lt
  have l_y1 := hB_y1.lt
  go_wp2_with fail
  exact bodyPost_ret (v := .tuple #[.agg #[.int .u64 0, .int .u64 0, .int .u64 0], .int .i64 c]) (by simp [results, Try.results17, go_sem, c_x0, c_x1, c_x2]) rfl ⟨rfl, by repeat (first | exact hU1 | refine Upd.setNew ?_ (by first | exact Nat.le_refl _ | exact Nat.le_succ _ | (simp; done) | omega) _ | refine Upd.drewN ?_ _ | refine Upd.alloc ?_ _)⟩
theorem field_tokens (v0 v1 v2 : Value) (u : World) : (Instr.field 25 (.agg #[v0, v1, v2]) 2).run Try.prog u = .ok v2 u := by kernel_rfl
theorem lives (w : World) : Calls Try.prog 22 #[] w fun e w' => e = .returned (.bool true) ∧ Upd Nowhere w w' := by
  have h1 := fun u => new_ok 3 10 rfl u
  have h2 := fun u => take_yes 3 10 10 10 rfl (by omega) (by omega) u
  have h3 := fun u => wait_ok 3 10 0 7 (by omega) (by omega) rfl (by omega) u
  have h4 := fun u => tick_ok 3 10 0 3 (by omega) (by omega) (by omega) rfl u
  have e2 : 10 - 10 = 0 := rfl
  have e3 : ups (7 - 0) 3 = 3 := rfl
  have e4 : min (0 + 3 * 3) 10 = 9 := rfl
  rw [e2] at h2
  rw [e3] at h3
  rw [e4] at h4
  have H1 := fun u => Lib.hid (h1 u)
  have H2 := fun u => Lib.hid (h2 u)
  have H3 := fun u => Lib.hid (h3 u)
  have H4 := fun u => Lib.hid (h4 u)
  have hf := field_tokens
  clear h1 h2 h3 h4 e2 e3 e4
  go_enter Try.func22, Try.ntmps22
  go_wp2_with fail
  refine ((H1 _).out).mono ?_
  rintro e w1 ⟨rfl, u1⟩
  have hU1 : Upd Nowhere w w1 := (Upd.refl _ _).trans u1 (fun _ _ h => h)
  go_wp2_with fail
  refine ((H2 _).out).mono ?_
  rintro e w2 ⟨rfl, u2⟩
  have hB_x2 : Blk w2 (w1.heap.size) #[.int .u64 3, .int .u64 10, .int .u64 10] 25 := (Blk.new _ _ _).kept u2 id
  have hU2 : Upd Nowhere w w2 := ((hU1).alloc _).trans u2 (fun _ _ h => h)
  clear u1
  obtain ⟨c_x0, c_x1, c_x2, z_x0, z_x1, z_x2⟩ := cells3 (hB_x2)
  have l_x2 := hB_x2.lt
  have hB_x3 := ((((hB_x2.set 0 (.int .u64 3)).set 1 (.int .u64 10)).set 2 (.int .u64 0)))
  have hU3 : Upd Nowhere w (((w2.setCell ⟨w1.heap.size, 0, none⟩ (.int .u64 3)).setCell ⟨w1.heap.size, 1, none⟩ (.int .u64 10)).setCell ⟨w1.heap.size, 2, none⟩ (.int .u64 0)) := ((hU2.setNew hU1.size _).setNew hU1.size _).setNew hU1.size _
  go_wp2_with fail
  refine ((H3 _).out).mono ?_
  rintro e w4 ⟨rfl, u4⟩
  have hB_x4 := hB_x3.kept u4 id
  have hU4 := hU3.trans u4 (fun _ _ h => h)
  clear c_x0 c_x1 c_x2 z_x0 z_x1 z_x2 hB_x3 hB_x2
  obtain ⟨c_x0, c_x1, c_x2, z_x0, z_x1, z_x2⟩ := cells3 (a0 := .int .u64 3) (a1 := .int .u64 10) (a2 := .int .u64 0) hB_x4
  go_wp2_with fail
  refine ((H4 _).out).mono ?_
  rintro e w5 ⟨rfl, u5⟩
  go_wp2_with fail
  go_ret
  exact ⟨rfl, hU4.trans u5 (fun _ _ h => h)⟩
end Go.Proofs.Ytgmiggnlhcldlaa.Bucket
