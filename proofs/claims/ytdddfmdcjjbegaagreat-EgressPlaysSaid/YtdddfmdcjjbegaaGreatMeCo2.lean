/- Codel2, one behind the other. -/
import Derived.Test.YtdddfmdcjjbegaaGreatMeCo
namespace Go.Proofs.YtdddfmdcjjbegaaGreat.Codel
open Go.RowKit Go.Proofs BigFrame
open Wide (Gives)
open Bits (sat_add wrapN)
set_option maxHeartbeats 2000000
set_option maxRecDepth 100000
theorem s_no (T I X F N K L now wt bh : Nat) (D : Bool) (h : ¬(1 ≤ I ∧ I ≤ 2147483648)) (w : World) : Calls Tryz.prog 72 #[.agg #[.int .u64 T, .int .u64 I, .int .u64 X], .agg #[.int .u64 F, .int .u64 N, .int .u64 K, .int .u64 L, .bool D], .int .u64 now, .int .u64 wt, .int .u64 bh] w fun e w' => Gives w (.tuple #[.agg #[.int .u64 F, .int .u64 N, .int .u64 K, .int .u64 L, .bool D], .bool false]) e w' := by
 have H1 := fun u => Lib.hid (check_no T I X h u)
 clear h
 go_enter Tryz.func72, Tryz.ntmps72
 go_wp2_with fail
 refine ((H1 _).out).mono ?_
 rintro e w1 ⟨rfl, u1⟩
 have hB_c1 : Blk w1 (w.heap.size) #[.int .u64 T, .int .u64 I, .int .u64 X] 77 := (((Blk.new _ _ _).alloc _).alloc _).kept u1 id
 have hB_s1 : Blk w1 (w.heap.size + 1) #[.int .u64 F, .int .u64 N, .int .u64 K, .int .u64 L, .bool D] 92 := ((Blk.new2 _ _ _ _).alloc _).kept u1 id
 have hB_r1 : Blk w1 (w.heap.size + 1 + 1) #[.int .u64 0, .int .u64 0, .int .u64 0, .int .u64 0, .bool false] 92 := (Blk.new3 _ _ _ _ _).kept u1 id
 have hU1 : Upd Nowhere w w1 := ((((Upd.refl _ _).alloc _).alloc _).alloc _).trans u1 (fun _ _ h => h)
 obtain ⟨c_c0, c_c1, c_c2, z_c0, z_c1, z_c2⟩ := cells3 (hB_c1)
 obtain ⟨c_s0, c_s1, c_s2, c_s3, c_s4, z_s0, z_s1, z_s2, z_s3, z_s4⟩ := cells5 (hB_s1)
 obtain ⟨c_r0, c_r1, c_r2, c_r3, c_r4, z_r0, z_r1, z_r2, z_r3, z_r4⟩ := cells5 (hB_r1)
 have l_c1 := hB_c1.lt
 have l_s1 := hB_s1.lt
 have l_r1 := hB_r1.lt
 go_wp2_with fail
 exact bodyPost_ret (v := .tuple #[.agg #[.int .u64 F, .int .u64 N, .int .u64 K, .int .u64 L, .bool D], .bool false]) (by simp [results, Tryz.results72, go_sem, c_r0, c_r1, c_r2, c_r3, c_r4]) rfl ⟨rfl, by repeat (first | with_reducible exact hU1 | refine Upd.setNew ?_ (by first | (simp; done) | (dsimp only; omega)) _ | refine Upd.drewN ?_ _ | refine Upd.drew ?_ | refine Upd.alloc ?_ _)⟩
theorem s_wait (T I X F N K L now wt bh : Nat) (D : Bool) (h1 : 1 ≤ I) (h2 : I ≤ 2147483648) (hn : now ≤ 18446744073709551615) (f : Nat) (hm : tm T I X F now wt bh = (f, false)) (w : World) : Calls Tryz.prog 72 #[.agg #[.int .u64 T, .int .u64 I, .int .u64 X], .agg #[.int .u64 F, .int .u64 N, .int .u64 K, .int .u64 L, .bool D], .int .u64 now, .int .u64 wt, .int .u64 bh] w fun e w' => Gives w (.tuple #[.agg #[.int .u64 (f : Nat), .int .u64 N, .int .u64 K, .int .u64 L, .bool false], .bool false]) e w' := by
 have H1 := fun u => Lib.hid (check_ok T I X h1 h2 u)
 have ht := fun u => time_any T I X F now wt bh (by omega) hn u
 rw [hm] at ht
 have H2 := fun u => Lib.hid (ht u)
 clear ht hm h1 h2 hn
 go_enter Tryz.func72, Tryz.ntmps72
 go_wp2_with fail
 refine ((H1 _).out).mono ?_
 rintro e w1 ⟨rfl, u1⟩
 have hB_c1 : Blk w1 (w.heap.size) #[.int .u64 T, .int .u64 I, .int .u64 X] 77 := (((Blk.new _ _ _).alloc _).alloc _).kept u1 id
 have hB_s1 : Blk w1 (w.heap.size + 1) #[.int .u64 F, .int .u64 N, .int .u64 K, .int .u64 L, .bool D] 92 := ((Blk.new2 _ _ _ _).alloc _).kept u1 id
 have hB_r1 : Blk w1 (w.heap.size + 1 + 1) #[.int .u64 0, .int .u64 0, .int .u64 0, .int .u64 0, .bool false] 92 := (Blk.new3 _ _ _ _ _).kept u1 id
 have hU1 : Upd Nowhere w w1 := ((((Upd.refl _ _).alloc _).alloc _).alloc _).trans u1 (fun _ _ h => h)
 obtain ⟨c_c0, c_c1, c_c2, z_c0, z_c1, z_c2⟩ := cells3 (hB_c1)
 obtain ⟨c_s0, c_s1, c_s2, c_s3, c_s4, z_s0, z_s1, z_s2, z_s3, z_s4⟩ := cells5 (hB_s1)
 obtain ⟨c_r0, c_r1, c_r2, c_r3, c_r4, z_r0, z_r1, z_r2, z_r3, z_r4⟩ := cells5 (hB_r1)
 have l_c1 := hB_c1.lt
 have l_s1 := hB_s1.lt
 have l_r1 := hB_r1.lt
 go_wp2_with fail
 refine ((H2 _).out).mono ?_
 rintro e w2 ⟨rfl, u2⟩
 clear c_c0 c_c1 c_c2 z_c0 z_c1 z_c2
 clear c_s0 c_s1 c_s2 c_s3 c_s4 z_s0 z_s1 z_s2 z_s3 z_s4
 clear c_r0 c_r1 c_r2 c_r3 c_r4 z_r0 z_r1 z_r2 z_r3 z_r4
 have hB_c2 : Blk w2 (w.heap.size) #[.int .u64 T, .int .u64 I, .int .u64 X] 77 := (hB_c1).kept u2 id
 have hB_s2 : Blk w2 (w.heap.size + 1) #[.int .u64 F, .int .u64 N, .int .u64 K, .int .u64 L, .bool D] 92 := (hB_s1).kept u2 id
 have hB_r2 : Blk w2 (w.heap.size + 1 + 1) #[.int .u64 0, .int .u64 0, .int .u64 0, .int .u64 0, .bool false] 92 := (hB_r1).kept u2 id
 have hU2 : Upd Nowhere w w2 := (hU1).trans u2 (fun _ _ h => h)
 clear u1
 obtain ⟨c_c0, c_c1, c_c2, z_c0, z_c1, z_c2⟩ := cells3 (hB_c2)
 obtain ⟨c_s0, c_s1, c_s2, c_s3, c_s4, z_s0, z_s1, z_s2, z_s3, z_s4⟩ := cells5 (hB_s2)
 obtain ⟨c_r0, c_r1, c_r2, c_r3, c_r4, z_r0, z_r1, z_r2, z_r3, z_r4⟩ := cells5 (hB_r2)
 have l_c2 := hB_c2.lt
 have l_s2 := hB_s2.lt
 have l_r2 := hB_r2.lt
 clear l_c1 l_s1 l_r1
 go_wp2_with fail
 exact bodyPost_ret (v := .tuple #[.agg #[.int .u64 f, .int .u64 N, .int .u64 K, .int .u64 L, .bool false], .bool false]) (by simp [results, Tryz.results72, go_sem, c_r0, c_r1, c_r2, c_r3, c_r4]) rfl ⟨rfl, by repeat (first | with_reducible exact hU2 | refine Upd.setNew ?_ (by first | (simp; done) | (dsimp only; omega)) _ | refine Upd.drewN ?_ _ | refine Upd.drew ?_ | refine Upd.alloc ?_ _)⟩
theorem s_begin (T I X F N K L now wt bh : Nat) (h1 : 1 ≤ I) (h2 : I ≤ 2147483648) (hn : now ≤ 18446744073709551615) (f : Nat) (hN : N ≤ 18446744073709551615) (hK : K ≤ 18446744073709551615) (hL : L ≤ 18446744073709551615) (hm : tm T I X F now wt bh = (f, true)) (w : World) : Calls Tryz.prog 72 #[.agg #[.int .u64 T, .int .u64 I, .int .u64 X], .agg #[.int .u64 F, .int .u64 N, .int .u64 K, .int .u64 L, .bool false], .int .u64 now, .int .u64 wt, .int .u64 bh] w fun e w' => Gives w (.tuple #[.agg #[.int .u64 (f : Nat), .int .u64 (min (now + Root.part I (anew I N K L now)) 18446744073709551615 : Nat), .int .u64 (anew I N K L now : Nat), .int .u64 (anew I N K L now : Nat), .bool true], .bool true]) e w' := by
 have H1 := fun u => Lib.hid (check_ok T I X h1 h2 u)
 have ht := fun u => time_any T I X F now wt bh (by omega) hn u
 rw [hm] at ht
 have H2 := fun u => Lib.hid (ht u)
 have H3 := fun u => Lib.hid (begins_any f N K L T I X now false hN hK hL h2 hn u)
 generalize min (now + Root.part I (anew I N K L now)) 18446744073709551615 = y at *
 generalize anew I N K L now = A at *
 clear ht hm h1 h2 hn hN hK hL
 go_enter Tryz.func72, Tryz.ntmps72
 go_wp2_with fail
 refine ((H1 _).out).mono ?_
 rintro e w1 ⟨rfl, u1⟩
 have hB_c1 : Blk w1 (w.heap.size) #[.int .u64 T, .int .u64 I, .int .u64 X] 77 := (((Blk.new _ _ _).alloc _).alloc _).kept u1 id
 have hB_s1 : Blk w1 (w.heap.size + 1) #[.int .u64 F, .int .u64 N, .int .u64 K, .int .u64 L, .bool false] 92 := ((Blk.new2 _ _ _ _).alloc _).kept u1 id
 have hB_r1 : Blk w1 (w.heap.size + 1 + 1) #[.int .u64 0, .int .u64 0, .int .u64 0, .int .u64 0, .bool false] 92 := (Blk.new3 _ _ _ _ _).kept u1 id
 have hU1 : Upd Nowhere w w1 := ((((Upd.refl _ _).alloc _).alloc _).alloc _).trans u1 (fun _ _ h => h)
 obtain ⟨c_c0, c_c1, c_c2, z_c0, z_c1, z_c2⟩ := cells3 (hB_c1)
 obtain ⟨c_s0, c_s1, c_s2, c_s3, c_s4, z_s0, z_s1, z_s2, z_s3, z_s4⟩ := cells5 (hB_s1)
 obtain ⟨c_r0, c_r1, c_r2, c_r3, c_r4, z_r0, z_r1, z_r2, z_r3, z_r4⟩ := cells5 (hB_r1)
 have l_c1 := hB_c1.lt
 have l_s1 := hB_s1.lt
 have l_r1 := hB_r1.lt
 go_wp2_with fail
 refine ((H2 _).out).mono ?_
 rintro e w2 ⟨rfl, u2⟩
 clear c_c0 c_c1 c_c2 z_c0 z_c1 z_c2
 clear c_s0 c_s1 c_s2 c_s3 c_s4 z_s0 z_s1 z_s2 z_s3 z_s4
 clear c_r0 c_r1 c_r2 c_r3 c_r4 z_r0 z_r1 z_r2 z_r3 z_r4
 have hB_c2 : Blk w2 (w.heap.size) #[.int .u64 T, .int .u64 I, .int .u64 X] 77 := (hB_c1).kept u2 id
 have hB_s2 : Blk w2 (w.heap.size + 1) #[.int .u64 F, .int .u64 N, .int .u64 K, .int .u64 L, .bool false] 92 := (hB_s1).kept u2 id
 have hB_r2 : Blk w2 (w.heap.size + 1 + 1) #[.int .u64 0, .int .u64 0, .int .u64 0, .int .u64 0, .bool false] 92 := (hB_r1).kept u2 id
 have hU2 : Upd Nowhere w w2 := (hU1).trans u2 (fun _ _ h => h)
 clear u1
 obtain ⟨c_c0, c_c1, c_c2, z_c0, z_c1, z_c2⟩ := cells3 (hB_c2)
 obtain ⟨c_s0, c_s1, c_s2, c_s3, c_s4, z_s0, z_s1, z_s2, z_s3, z_s4⟩ := cells5 (hB_s2)
 obtain ⟨c_r0, c_r1, c_r2, c_r3, c_r4, z_r0, z_r1, z_r2, z_r3, z_r4⟩ := cells5 (hB_r2)
 have l_c2 := hB_c2.lt
 have l_s2 := hB_s2.lt
 have l_r2 := hB_r2.lt
 clear l_c1 l_s1 l_r1
 go_wp2_with fail
 refine ((H3 _).out).mono ?_
 rintro e w3 ⟨rfl, u3⟩
 clear c_c0 c_c1 c_c2 z_c0 z_c1 z_c2
 clear c_s0 c_s1 c_s2 c_s3 c_s4 z_s0 z_s1 z_s2 z_s3 z_s4
 clear c_r0 c_r1 c_r2 c_r3 c_r4 z_r0 z_r1 z_r2 z_r3 z_r4
 have hB_s3 : Blk w3 (w.heap.size + 1) #[.int .u64 f, .int .u64 N, .int .u64 K, .int .u64 L, .bool false] 92 := ((hB_s2).set 0 (.int .u64 f)).kept u3 id
 have hB_r3 : Blk w3 (w.heap.size + 1 + 1) #[.int .u64 0, .int .u64 0, .int .u64 0, .int .u64 0, .bool false] 92 := ((hB_r2).setOther (by first | (simp; done) | (dsimp only; omega)) _).kept u3 id
 have hU3 : Upd Nowhere w w3 := ((hU2).setNew (by first | exact Nat.le_refl _ | exact Nat.le_succ _ | (simp; done) | (dsimp only; omega)) _).trans u3 (fun _ _ h => h)
 clear u2
 obtain ⟨c_r0, c_r1, c_r2, c_r3, c_r4, z_r0, z_r1, z_r2, z_r3, z_r4⟩ := cells5 (hB_r3)
 have l_s3 := hB_s3.lt
 have l_r3 := hB_r3.lt
 clear l_c2 l_s2 l_r2
 go_wp2_with fail
 exact bodyPost_ret (v := .tuple #[.agg #[.int .u64 f, .int .u64 y, .int .u64 A, .int .u64 A, .bool true], .bool true]) (by simp [results, Tryz.results72, go_sem, c_r0, c_r1, c_r2, c_r3, c_r4]) rfl ⟨rfl, by repeat (first | with_reducible exact hU3 | refine Upd.setNew ?_ (by first | (simp; done) | (dsimp only; omega)) _ | refine Upd.drewN ?_ _ | refine Upd.drew ?_ | refine Upd.alloc ?_ _)⟩
theorem s_early (T I X F N K L now wt bh : Nat) (h1 : 1 ≤ I) (h2 : I ≤ 2147483648) (hn : now ≤ 18446744073709551615) (f : Nat) (hN : now < N) (hm : tm T I X F now wt bh = (f, true)) (w : World) : Calls Tryz.prog 72 #[.agg #[.int .u64 T, .int .u64 I, .int .u64 X], .agg #[.int .u64 F, .int .u64 N, .int .u64 K, .int .u64 L, .bool true], .int .u64 now, .int .u64 wt, .int .u64 bh] w fun e w' => Gives w (.tuple #[.agg #[.int .u64 (f : Nat), .int .u64 N, .int .u64 K, .int .u64 L, .bool true], .bool false]) e w' := by
 have H1 := fun u => Lib.hid (check_ok T I X h1 h2 u)
 have ht := fun u => time_any T I X F now wt bh (by omega) hn u
 rw [hm] at ht
 have H2 := fun u => Lib.hid (ht u)
 have tn : decide (now < N) = true := decide_eq_true hN
 clear ht hm h1 h2 hn
 go_enter Tryz.func72, Tryz.ntmps72
 go_wp2_with fail
 refine ((H1 _).out).mono ?_
 rintro e w1 ⟨rfl, u1⟩
 have hB_c1 : Blk w1 (w.heap.size) #[.int .u64 T, .int .u64 I, .int .u64 X] 77 := (((Blk.new _ _ _).alloc _).alloc _).kept u1 id
 have hB_s1 : Blk w1 (w.heap.size + 1) #[.int .u64 F, .int .u64 N, .int .u64 K, .int .u64 L, .bool true] 92 := ((Blk.new2 _ _ _ _).alloc _).kept u1 id
 have hB_r1 : Blk w1 (w.heap.size + 1 + 1) #[.int .u64 0, .int .u64 0, .int .u64 0, .int .u64 0, .bool false] 92 := (Blk.new3 _ _ _ _ _).kept u1 id
 have hU1 : Upd Nowhere w w1 := ((((Upd.refl _ _).alloc _).alloc _).alloc _).trans u1 (fun _ _ h => h)
 obtain ⟨c_c0, c_c1, c_c2, z_c0, z_c1, z_c2⟩ := cells3 (hB_c1)
 obtain ⟨c_s0, c_s1, c_s2, c_s3, c_s4, z_s0, z_s1, z_s2, z_s3, z_s4⟩ := cells5 (hB_s1)
 obtain ⟨c_r0, c_r1, c_r2, c_r3, c_r4, z_r0, z_r1, z_r2, z_r3, z_r4⟩ := cells5 (hB_r1)
 have l_c1 := hB_c1.lt
 have l_s1 := hB_s1.lt
 have l_r1 := hB_r1.lt
 go_wp2_with fail
 refine ((H2 _).out).mono ?_
 rintro e w2 ⟨rfl, u2⟩
 clear c_c0 c_c1 c_c2 z_c0 z_c1 z_c2
 clear c_s0 c_s1 c_s2 c_s3 c_s4 z_s0 z_s1 z_s2 z_s3 z_s4
 clear c_r0 c_r1 c_r2 c_r3 c_r4 z_r0 z_r1 z_r2 z_r3 z_r4
 have hB_c2 : Blk w2 (w.heap.size) #[.int .u64 T, .int .u64 I, .int .u64 X] 77 := (hB_c1).kept u2 id
 have hB_s2 : Blk w2 (w.heap.size + 1) #[.int .u64 F, .int .u64 N, .int .u64 K, .int .u64 L, .bool true] 92 := (hB_s1).kept u2 id
 have hB_r2 : Blk w2 (w.heap.size + 1 + 1) #[.int .u64 0, .int .u64 0, .int .u64 0, .int .u64 0, .bool false] 92 := (hB_r1).kept u2 id
 have hU2 : Upd Nowhere w w2 := (hU1).trans u2 (fun _ _ h => h)
 clear u1
 obtain ⟨c_c0, c_c1, c_c2, z_c0, z_c1, z_c2⟩ := cells3 (hB_c2)
 obtain ⟨c_s0, c_s1, c_s2, c_s3, c_s4, z_s0, z_s1, z_s2, z_s3, z_s4⟩ := cells5 (hB_s2)
 obtain ⟨c_r0, c_r1, c_r2, c_r3, c_r4, z_r0, z_r1, z_r2, z_r3, z_r4⟩ := cells5 (hB_r2)
 have l_c2 := hB_c2.lt
 have l_s2 := hB_s2.lt
 have l_r2 := hB_r2.lt
 clear l_c1 l_s1 l_r1
 go_wp2_with fail
 exact bodyPost_ret (v := .tuple #[.agg #[.int .u64 f, .int .u64 N, .int .u64 K, .int .u64 L, .bool true], .bool false]) (by simp [results, Tryz.results72, go_sem, c_r0, c_r1, c_r2, c_r3, c_r4]) rfl ⟨rfl, by repeat (first | with_reducible exact hU2 | refine Upd.setNew ?_ (by first | (simp; done) | (dsimp only; omega)) _ | refine Upd.drewN ?_ _ | refine Upd.drew ?_ | refine Upd.alloc ?_ _)⟩
theorem s_more (T I X F N K L now wt bh : Nat) (h1 : 1 ≤ I) (h2 : I ≤ 2147483648) (hn : now ≤ 18446744073709551615) (f : Nat) (hN : N ≤ now) (hK : K ≤ 18446744073709551615) (hm : tm T I X F now wt bh = (f, true)) (w : World) : Calls Tryz.prog 72 #[.agg #[.int .u64 T, .int .u64 I, .int .u64 X], .agg #[.int .u64 F, .int .u64 N, .int .u64 K, .int .u64 L, .bool true], .int .u64 now, .int .u64 wt, .int .u64 bh] w fun e w' => Gives w (.tuple #[.agg #[.int .u64 (f : Nat), .int .u64 (min (N + Root.part I (min (K + 1) 18446744073709551615)) 18446744073709551615 : Nat), .int .u64 (min (K + 1) 18446744073709551615 : Nat), .int .u64 L, .bool true], .bool true]) e w' := by
 have H1 := fun u => Lib.hid (check_ok T I X h1 h2 u)
 have ht := fun u => time_any T I X F now wt bh (by omega) hn u
 rw [hm] at ht
 have H2 := fun u => Lib.hid (ht u)
 have tn : decide (now < N) = false := decide_eq_false (by omega)
 have H3 := fun u => Lib.hid (sat_add K 1 u hK (by omega))
 have H4 := fun u => Lib.hid (goes_any f N (min (K + 1) 18446744073709551615) L T I X N true (Nat.min_le_right _ _) (by omega) u)
 generalize min (N + Root.part I (min (K + 1) 18446744073709551615)) 18446744073709551615 = y at *
 generalize min (K + 1) 18446744073709551615 = A at *
 clear ht hm h1 h2 hn hN hK
 go_enter Tryz.func72, Tryz.ntmps72
 go_wp2_with fail
 refine ((H1 _).out).mono ?_
 rintro e w1 ⟨rfl, u1⟩
 have hB_c1 : Blk w1 (w.heap.size) #[.int .u64 T, .int .u64 I, .int .u64 X] 77 := (((Blk.new _ _ _).alloc _).alloc _).kept u1 id
 have hB_s1 : Blk w1 (w.heap.size + 1) #[.int .u64 F, .int .u64 N, .int .u64 K, .int .u64 L, .bool true] 92 := ((Blk.new2 _ _ _ _).alloc _).kept u1 id
 have hB_r1 : Blk w1 (w.heap.size + 1 + 1) #[.int .u64 0, .int .u64 0, .int .u64 0, .int .u64 0, .bool false] 92 := (Blk.new3 _ _ _ _ _).kept u1 id
 have hU1 : Upd Nowhere w w1 := ((((Upd.refl _ _).alloc _).alloc _).alloc _).trans u1 (fun _ _ h => h)
 obtain ⟨c_c0, c_c1, c_c2, z_c0, z_c1, z_c2⟩ := cells3 (hB_c1)
 obtain ⟨c_s0, c_s1, c_s2, c_s3, c_s4, z_s0, z_s1, z_s2, z_s3, z_s4⟩ := cells5 (hB_s1)
 obtain ⟨c_r0, c_r1, c_r2, c_r3, c_r4, z_r0, z_r1, z_r2, z_r3, z_r4⟩ := cells5 (hB_r1)
 have l_c1 := hB_c1.lt
 have l_s1 := hB_s1.lt
 have l_r1 := hB_r1.lt
 go_wp2_with fail
 refine ((H2 _).out).mono ?_
 rintro e w2 ⟨rfl, u2⟩
 clear c_c0 c_c1 c_c2 z_c0 z_c1 z_c2
 clear c_s0 c_s1 c_s2 c_s3 c_s4 z_s0 z_s1 z_s2 z_s3 z_s4
 clear c_r0 c_r1 c_r2 c_r3 c_r4 z_r0 z_r1 z_r2 z_r3 z_r4
 have hB_c2 : Blk w2 (w.heap.size) #[.int .u64 T, .int .u64 I, .int .u64 X] 77 := (hB_c1).kept u2 id
 have hB_s2 : Blk w2 (w.heap.size + 1) #[.int .u64 F, .int .u64 N, .int .u64 K, .int .u64 L, .bool true] 92 := (hB_s1).kept u2 id
 have hB_r2 : Blk w2 (w.heap.size + 1 + 1) #[.int .u64 0, .int .u64 0, .int .u64 0, .int .u64 0, .bool false] 92 := (hB_r1).kept u2 id
 have hU2 : Upd Nowhere w w2 := (hU1).trans u2 (fun _ _ h => h)
 clear u1
 obtain ⟨c_c0, c_c1, c_c2, z_c0, z_c1, z_c2⟩ := cells3 (hB_c2)
 obtain ⟨c_s0, c_s1, c_s2, c_s3, c_s4, z_s0, z_s1, z_s2, z_s3, z_s4⟩ := cells5 (hB_s2)
 obtain ⟨c_r0, c_r1, c_r2, c_r3, c_r4, z_r0, z_r1, z_r2, z_r3, z_r4⟩ := cells5 (hB_r2)
 have l_c2 := hB_c2.lt
 have l_s2 := hB_s2.lt
 have l_r2 := hB_r2.lt
 clear l_c1 l_s1 l_r1
 go_wp2_with fail
 refine ((H3 _).out).mono ?_
 rintro e w' ⟨rfl, rfl⟩
 go_wp2_with fail
 refine ((H4 _).out).mono ?_
 rintro e w4 ⟨rfl, u4⟩
 clear c_c0 c_c1 c_c2 z_c0 z_c1 z_c2
 clear c_s0 c_s1 c_s2 c_s3 c_s4 z_s0 z_s1 z_s2 z_s3 z_s4
 clear c_r0 c_r1 c_r2 c_r3 c_r4 z_r0 z_r1 z_r2 z_r3 z_r4
 have hB_s4 : Blk w4 (w.heap.size + 1) #[.int .u64 f, .int .u64 N, .int .u64 A, .int .u64 L, .bool true] 92 := (((hB_s2).set 0 (.int .u64 f)).set 2 (.int .u64 A)).kept u4 id
 have hB_r4 : Blk w4 (w.heap.size + 1 + 1) #[.int .u64 0, .int .u64 0, .int .u64 0, .int .u64 0, .bool false] 92 := (((hB_r2).setOther (by first | (simp; done) | (dsimp only; omega)) _).setOther (by first | (simp; done) | (dsimp only; omega)) _).kept u4 id
 have hU4 : Upd Nowhere w w4 := (((hU2).setNew (by first | exact Nat.le_refl _ | exact Nat.le_succ _ | (simp; done) | (dsimp only; omega)) _).setNew (by first | exact Nat.le_refl _ | exact Nat.le_succ _ | (simp; done) | (dsimp only; omega)) _).trans u4 (fun _ _ h => h)
 clear u2
 obtain ⟨c_r0, c_r1, c_r2, c_r3, c_r4, z_r0, z_r1, z_r2, z_r3, z_r4⟩ := cells5 (hB_r4)
 have l_s4 := hB_s4.lt
 have l_r4 := hB_r4.lt
 clear l_c2 l_s2 l_r2
 go_wp2_with fail
 exact bodyPost_ret (v := .tuple #[.agg #[.int .u64 f, .int .u64 y, .int .u64 A, .int .u64 L, .bool true], .bool true]) (by simp [results, Tryz.results72, go_sem, c_r0, c_r1, c_r2, c_r3, c_r4]) rfl ⟨rfl, by repeat (first | with_reducible exact hU4 | refine Upd.setNew ?_ (by first | (simp; done) | (dsimp only; omega)) _ | refine Upd.drewN ?_ _ | refine Upd.drew ?_ | refine Upd.alloc ?_ _)⟩
end Go.Proofs.YtdddfmdcjjbegaaGreat.Codel

