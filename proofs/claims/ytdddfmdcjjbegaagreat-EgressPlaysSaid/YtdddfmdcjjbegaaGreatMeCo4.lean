/- Codel4, one behind the other. -/
import Derived.Test.YtdddfmdcjjbegaaGreatMeCo3
import Derived.Deep.RegionWith
namespace Go.Proofs.YtdddfmdcjjbegaaGreat.Codel
open Go.RowKit Go.Proofs BigFrame
open Wide (Gives)
set_option maxHeartbeats 2000000
set_option maxRecDepth 100000
theorem r_more (T I X F N K L now wt bh : Nat) (h1 : 1 ≤ I) (h2 : I ≤ 2147483648) (hn : now ≤ 18446744073709551615) (ha : T ≤ wt) (hb : X < bh) (hF : 0 < F) (hnF : F ≤ now) (hN : N ≤ now) (hK : K ≤ 18446744073709551615) (w : World) : Calls Tryz.prog 92 #[.agg #[.int .u64 T, .int .u64 I, .int .u64 X], .agg #[.int .u64 F, .int .u64 N, .int .u64 K, .int .u64 L, .bool true], .int .u64 now, .int .u64 wt, .int .u64 bh] w fun e w' => Gives w (.tuple #[.agg #[.int .u64 F, .int .u64 (min (N + Root.part I (min (K + 1) 18446744073709551615)) 18446744073709551615 : Nat), .int .u64 (min (K + 1) 18446744073709551615 : Nat), .int .u64 L, .bool true], .bool true]) e w' := by
 have H1 := fun u => Lib.hid (may_ok T I X h1 h2 u)
 have ta : decide (T ≤ wt) = true := decide_eq_true ha
 have tb : decide (X < bh) = true := decide_eq_true hb
 have tc : ((F : Int) == 0) = false := by simp; omega
 have td : ((F : Int) != 0) = true := by simp; omega
 have te : decide (F ≤ now) = true := decide_eq_true hnF
 have hp : ∀ k, Root.part I k ≤ 18446744073709551615 := fun k => Nat.le_trans (Root.part_le I k) (Nat.le_trans (Nat.min_le_right _ _) (by omega))
 have tn : decide (now < N) = false := decide_eq_false (by omega)
 have H3 := fun u => Lib.hid (Sat.ref_add K 1 hK (by omega) u)
 have H4 := fun u => Lib.hid (Root.rpart_any I (min (K + 1) 18446744073709551615) u)
 have H5 := fun u => Lib.hid (Sat.ref_add N (Root.part I (min (K + 1) 18446744073709551615)) (by omega) (hp _) u)
 generalize min (N + Root.part I (min (K + 1) 18446744073709551615)) 18446744073709551615 = y at *
 generalize Root.part I (min (K + 1) 18446744073709551615) = p at *
 generalize min (K + 1) 18446744073709551615 = A at *
 clear h1 h2 hn ha hb hF hnF hN hK hp
 go_enter Tryz.func92, Tryz.ntmps92
 go_wp2_with fail
 refine ((H1 _).out).mono ?_
 rintro e w1 ⟨rfl, u1⟩
 have hB_c1 : Blk w1 (w.heap.size) #[.int .u64 T, .int .u64 I, .int .u64 X] 56 := (((Blk.new _ _ _).alloc _).alloc _).kept u1 id
 have hB_s1 : Blk w1 (w.heap.size + 1) #[.int .u64 F, .int .u64 N, .int .u64 K, .int .u64 L, .bool true] 139 := ((Blk.new2 _ _ _ _).alloc _).kept u1 id
 have hB_r1 : Blk w1 (w.heap.size + 1 + 1) #[.int .u64 0, .int .u64 0, .int .u64 0, .int .u64 0, .bool false] 139 := (Blk.new3 _ _ _ _ _).kept u1 id
 have hU1 : Upd Nowhere w w1 := ((((Upd.refl _ _).alloc _).alloc _).alloc _).trans u1 (fun _ _ h => h)
 obtain ⟨c_c0, c_c1, c_c2, z_c0, z_c1, z_c2⟩ := cells3 (hB_c1)
 obtain ⟨c_s0, c_s1, c_s2, c_s3, c_s4, z_s0, z_s1, z_s2, z_s3, z_s4⟩ := cells5 (hB_s1)
 obtain ⟨c_r0, c_r1, c_r2, c_r3, c_r4, z_r0, z_r1, z_r2, z_r3, z_r4⟩ := cells5 (hB_r1)
 have l_c1 := hB_c1.lt
 have l_s1 := hB_s1.lt
 have l_r1 := hB_r1.lt
 go_wp2_with fail
 refine ((H3 _).out).mono ?_
 rintro e w2 ⟨rfl, u2⟩
 clear c_c0 c_c1 c_c2 z_c0 z_c1 z_c2
 clear c_s0 c_s1 c_s2 c_s3 c_s4 z_s0 z_s1 z_s2 z_s3 z_s4
 clear c_r0 c_r1 c_r2 c_r3 c_r4 z_r0 z_r1 z_r2 z_r3 z_r4
 have hB_c2 : Blk w2 (w.heap.size) #[.int .u64 T, .int .u64 I, .int .u64 X] 56 := (hB_c1).kept u2 id
 have hB_s2 : Blk w2 (w.heap.size + 1) #[.int .u64 F, .int .u64 N, .int .u64 K, .int .u64 L, .bool true] 139 := (hB_s1).kept u2 id
 have hB_r2 : Blk w2 (w.heap.size + 1 + 1) #[.int .u64 0, .int .u64 0, .int .u64 0, .int .u64 0, .bool false] 139 := (hB_r1).kept u2 id
 have hU2 : Upd Nowhere w w2 := (hU1).trans u2 (fun _ _ h => h)
 clear u1
 obtain ⟨c_c0, c_c1, c_c2, z_c0, z_c1, z_c2⟩ := cells3 (hB_c2)
 obtain ⟨c_s0, c_s1, c_s2, c_s3, c_s4, z_s0, z_s1, z_s2, z_s3, z_s4⟩ := cells5 (hB_s2)
 obtain ⟨c_r0, c_r1, c_r2, c_r3, c_r4, z_r0, z_r1, z_r2, z_r3, z_r4⟩ := cells5 (hB_r2)
 have l_c2 := hB_c2.lt
 have l_s2 := hB_s2.lt
 have l_r2 := hB_r2.lt
 clear l_c1 l_s1 l_r1
 go_wp2_with fail
 clear c_c0 c_c1 c_c2 z_c0 z_c1 z_c2
 clear c_s0 c_s1 c_s2 c_s3 c_s4 z_s0 z_s1 z_s2 z_s3 z_s4
 clear c_r0 c_r1 c_r2 c_r3 c_r4 z_r0 z_r1 z_r2 z_r3 z_r4
 have hB_c3 : Blk ((w2.setCell ⟨w.heap.size + 1, 2, none⟩ (.int .u64 A))) (w.heap.size) #[.int .u64 T, .int .u64 I, .int .u64 X] 56 := (hB_c2).setOther (by first | (simp; done) | (dsimp only; omega)) _
 have hB_s3 : Blk ((w2.setCell ⟨w.heap.size + 1, 2, none⟩ (.int .u64 A))) (w.heap.size + 1) #[.int .u64 F, .int .u64 N, .int .u64 A, .int .u64 L, .bool true] 139 := (hB_s2).set 2 (.int .u64 A)
 have hB_r3 : Blk ((w2.setCell ⟨w.heap.size + 1, 2, none⟩ (.int .u64 A))) (w.heap.size + 1 + 1) #[.int .u64 0, .int .u64 0, .int .u64 0, .int .u64 0, .bool false] 139 := (hB_r2).setOther (by first | (simp; done) | (dsimp only; omega)) _
 have hU3 : Upd Nowhere w ((w2.setCell ⟨w.heap.size + 1, 2, none⟩ (.int .u64 A))) := (hU2).setNew (by first | exact Nat.le_refl _ | exact Nat.le_succ _ | (simp; done) | (dsimp only; omega)) _
 generalize (w2.setCell ⟨w.heap.size + 1, 2, none⟩ (.int .u64 A)) = w3 at *
 clear u2
 obtain ⟨c_c0, c_c1, c_c2, z_c0, z_c1, z_c2⟩ := cells3 (hB_c3)
 obtain ⟨c_s0, c_s1, c_s2, c_s3, c_s4, z_s0, z_s1, z_s2, z_s3, z_s4⟩ := cells5 (hB_s3)
 obtain ⟨c_r0, c_r1, c_r2, c_r3, c_r4, z_r0, z_r1, z_r2, z_r3, z_r4⟩ := cells5 (hB_r3)
 have l_c3 := hB_c3.lt
 have l_s3 := hB_s3.lt
 have l_r3 := hB_r3.lt
 clear l_c2 l_s2 l_r2
 have hS0 : Upd Nowhere w3 w3.drew := (Upd.refl _ _).drew
 go_region_with (first
  | (go_at_call 115; refine (keepF (H4 _).out (by first | exact ⟨hS0, c_s1, c_s2, c_c1, z_s1⟩ | assumption)).mono ?_; rintro e w' ⟨rfl, hS⟩; have hS' := hS; obtain ⟨q0, q1, q2, q3, q4⟩ := hS')
  | (go_at_call 19; refine (keepF (H5 _).out (by first | exact ⟨hS0, c_s1, c_s2, c_c1, z_s1⟩ | assumption)).mono ?_; rintro e w' ⟨rfl, hS⟩; have hS' := hS; obtain ⟨q0, q1, q2, q3, q4⟩ := hS'))
 all_goals
  clear c_c0 z_c0 c_c1 z_c1 c_c2 z_c2 c_s0 z_s0 c_s1 z_s1 c_s2 z_s2 c_s3 z_s3 c_s4 z_s4 c_r0 z_r0 c_r1 z_r1 c_r2 z_r2 c_r3 z_r3 c_r4 z_r4
  obtain ⟨c_s0, c_s1, c_s2, c_s3, c_s4, z_s0, z_s1, z_s2, z_s3, z_s4⟩ := cells5 (hB_s3.kept q0 id)
  obtain ⟨c_r0, c_r1, c_r2, c_r3, c_r4, z_r0, z_r1, z_r2, z_r3, z_r4⟩ := cells5 (hB_r3.kept q0 id)
  have hU4 : Upd Nowhere w w' := hU3.trans q0 (fun _ _ h => h)
  clear hS q1 q2 q3 q4
  go_wp2
  exact bodyPost_ret (v := .tuple #[.agg #[.int .u64 F, .int .u64 y, .int .u64 A, .int .u64 L, .bool true], .bool true]) (by simp [results, Tryz.results92, go_sem, c_r0, c_r1, c_r2, c_r3, c_r4]) rfl ⟨rfl, by repeat (first | with_reducible exact hU4 | refine Upd.setNew ?_ (by first | (simp; done) | (dsimp only; omega)) _ | refine Upd.drewN ?_ _ | refine Upd.drew ?_ | refine Upd.alloc ?_ _)⟩
end Go.Proofs.YtdddfmdcjjbegaaGreat.Codel

