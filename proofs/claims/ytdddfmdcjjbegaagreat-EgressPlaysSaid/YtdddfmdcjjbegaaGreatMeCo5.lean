/- Codel5, one behind the other. -/
import Derived.Test.YtdddfmdcjjbegaaGreatMeCo2
import Derived.Test.YtdddfmdcjjbegaaGreatMeCo4
namespace Go.Proofs.YtdddfmdcjjbegaaGreat.Codel
open Go.RowKit Go.Proofs BigFrame
open Wide (Gives)
set_option maxHeartbeats 2000000
set_option maxRecDepth 100000
theorem r_begin (T I X F N K L now wt bh : Nat) (h1 : 1 ≤ I) (h2 : I ≤ 2147483648) (hn : now ≤ 18446744073709551615) (ha : T ≤ wt) (hb : X < bh) (hF : 0 < F) (hnF : F ≤ now) (hN : N ≤ 18446744073709551615) (hK : K ≤ 18446744073709551615) (hL : L ≤ 18446744073709551615) (w : World) : Calls Tryz.prog 92 #[.agg #[.int .u64 T, .int .u64 I, .int .u64 X], .agg #[.int .u64 F, .int .u64 N, .int .u64 K, .int .u64 L, .bool false], .int .u64 now, .int .u64 wt, .int .u64 bh] w fun e w' => Gives w (.tuple #[.agg #[.int .u64 F, .int .u64 (min (now + Root.part I (anew I N K L now)) 18446744073709551615 : Nat), .int .u64 (anew I N K L now : Nat), .int .u64 (anew I N K L now : Nat), .bool true], .bool true]) e w' := by
 have H1 := fun u => Lib.hid (may_ok T I X h1 h2 u)
 have ta : decide (T ≤ wt) = true := decide_eq_true ha
 have tb : decide (X < bh) = true := decide_eq_true hb
 have tc : ((F : Int) == 0) = false := by simp; omega
 have td : ((F : Int) != 0) = true := by simp; omega
 have te : decide (F ≤ now) = true := decide_eq_true hnF
 have hp : ∀ k, Root.part I k ≤ 18446744073709551615 := fun k => Nat.le_trans (Root.part_le I k) (Nat.le_trans (Nat.min_le_right _ _) (by omega))
 have hA : anew I N K L now ≤ 18446744073709551615 := by unfold anew; split <;> omega
 have H2 := fun u => Lib.hid (Sat.ref_sub K L hK hL u)
 have H3 := fun u => Lib.hid (Sat.ref_sub now N hn hN u)
 have H4 := fun u => Lib.hid (Root.rpart_any I (anew I N K L now) u)
 have H5 := fun u => Lib.hid (Sat.ref_add now (Root.part I (anew I N K L now)) hn (hp _) u)
 have e16 : IntKind.u64.wrap (16 * (I : Int)) = ((16 * I : Nat) : Int) := by rw [IntKind.wrap_u64]; omega
 obtain ⟨A, hA⟩ : ∃ A, anew I N K L now = A := ⟨_, rfl⟩
 rw [hA] at H4 H5 ⊢
 unfold anew at hA
 generalize min (now + Root.part I A) 18446744073709551615 = y at *
 generalize Root.part I A = p at *
 generalize K - L = more at *
 generalize now - N = ago at *
 generalize 16 * I = lim at *
 rcases Nat.lt_or_ge 1 more with h1' | h1'
 · have t1 : decide ((more : Int) > 1) = true := decide_eq_true (by omega)
   have t2 : decide (1 < (more : Int)) = true := decide_eq_true (by omega)
   rcases Nat.lt_or_ge ago lim with h2' | h2'
   · have t3 : decide (ago < lim) = true := decide_eq_true (by omega)
     rw [if_pos ⟨h1', h2'⟩] at hA
     subst hA
     clear hN hK hL h1 h2 hn ha hb hF hnF hp h1' h2'
     go_enter Tryz.func92, Tryz.ntmps92
     go_wp2_with fail
     refine ((H1 _).out).mono ?_
     rintro e w1 ⟨rfl, u1⟩
     have hB_c1 : Blk w1 (w.heap.size) #[.int .u64 T, .int .u64 I, .int .u64 X] 56 := (((Blk.new _ _ _).alloc _).alloc _).kept u1 id
     have hB_s1 : Blk w1 (w.heap.size + 1) #[.int .u64 F, .int .u64 N, .int .u64 K, .int .u64 L, .bool false] 139 := ((Blk.new2 _ _ _ _).alloc _).kept u1 id
     have hB_r1 : Blk w1 (w.heap.size + 1 + 1) #[.int .u64 0, .int .u64 0, .int .u64 0, .int .u64 0, .bool false] 139 := (Blk.new3 _ _ _ _ _).kept u1 id
     have hU1 : Upd Nowhere w w1 := ((((Upd.refl _ _).alloc _).alloc _).alloc _).trans u1 (fun _ _ h => h)
     obtain ⟨c_c0, c_c1, c_c2, z_c0, z_c1, z_c2⟩ := cells3 (hB_c1)
     obtain ⟨c_s0, c_s1, c_s2, c_s3, c_s4, z_s0, z_s1, z_s2, z_s3, z_s4⟩ := cells5 (hB_s1)
     obtain ⟨c_r0, c_r1, c_r2, c_r3, c_r4, z_r0, z_r1, z_r2, z_r3, z_r4⟩ := cells5 (hB_r1)
     have l_c1 := hB_c1.lt
     have l_s1 := hB_s1.lt
     have l_r1 := hB_r1.lt
     go_wp2_with fail
     refine ((H2 _).out).mono ?_
     rintro e w' ⟨rfl, rfl⟩
     go_wp2_with fail
     go_quiet ((go_at_call 116; exact quiet_same (H3 _).out))
     clear c_c0 c_c1 c_c2 z_c0 z_c1 z_c2
     clear c_s0 c_s1 c_s2 c_s3 c_s4 z_s0 z_s1 z_s2 z_s3 z_s4
     clear c_r0 c_r1 c_r2 c_r3 c_r4 z_r0 z_r1 z_r2 z_r3 z_r4
     have hB_c3 : Blk ((w1.setCell ⟨w.heap.size + 1, 4, none⟩ (.bool true)).drewN nq) (w.heap.size) #[.int .u64 T, .int .u64 I, .int .u64 X] 56 := ((hB_c1).setOther (by first | (simp; done) | (dsimp only; omega)) _).drewN nq
     have hB_s3 : Blk ((w1.setCell ⟨w.heap.size + 1, 4, none⟩ (.bool true)).drewN nq) (w.heap.size + 1) #[.int .u64 F, .int .u64 N, .int .u64 K, .int .u64 L, .bool true] 139 := ((hB_s1).set 4 (.bool true)).drewN nq
     have hB_r3 : Blk ((w1.setCell ⟨w.heap.size + 1, 4, none⟩ (.bool true)).drewN nq) (w.heap.size + 1 + 1) #[.int .u64 0, .int .u64 0, .int .u64 0, .int .u64 0, .bool false] 139 := ((hB_r1).setOther (by first | (simp; done) | (dsimp only; omega)) _).drewN nq
     have hU3 : Upd Nowhere w ((w1.setCell ⟨w.heap.size + 1, 4, none⟩ (.bool true)).drewN nq) := ((hU1).setNew (by first | exact Nat.le_refl _ | exact Nat.le_succ _ | (simp; done) | (dsimp only; omega)) _).drewN nq
     generalize (w1.setCell ⟨w.heap.size + 1, 4, none⟩ (.bool true)).drewN nq = w3 at *
     clear u1
     obtain ⟨c_c0, c_c1, c_c2, z_c0, z_c1, z_c2⟩ := cells3 (hB_c3)
     obtain ⟨c_s0, c_s1, c_s2, c_s3, c_s4, z_s0, z_s1, z_s2, z_s3, z_s4⟩ := cells5 (hB_s3)
     obtain ⟨c_r0, c_r1, c_r2, c_r3, c_r4, z_r0, z_r1, z_r2, z_r3, z_r4⟩ := cells5 (hB_r3)
     have l_c3 := hB_c3.lt
     have l_s3 := hB_s3.lt
     have l_r3 := hB_r3.lt
     clear l_c1 l_s1 l_r1
     go_wp2_with fail
     refine ((H4 _).out).mono ?_
     rintro e w4 ⟨rfl, u4⟩
     clear c_c0 c_c1 c_c2 z_c0 z_c1 z_c2
     clear c_s0 c_s1 c_s2 c_s3 c_s4 z_s0 z_s1 z_s2 z_s3 z_s4
     clear c_r0 c_r1 c_r2 c_r3 c_r4 z_r0 z_r1 z_r2 z_r3 z_r4
     have hB_c4 : Blk w4 (w.heap.size) #[.int .u64 T, .int .u64 I, .int .u64 X] 56 := ((hB_c3).setOther (by first | (simp; done) | (dsimp only; omega)) _).kept u4 id
     have hB_s4 : Blk w4 (w.heap.size + 1) #[.int .u64 F, .int .u64 N, .int .u64 more, .int .u64 L, .bool true] 139 := ((hB_s3).set 2 (.int .u64 more)).kept u4 id
     have hB_r4 : Blk w4 (w.heap.size + 1 + 1) #[.int .u64 0, .int .u64 0, .int .u64 0, .int .u64 0, .bool false] 139 := ((hB_r3).setOther (by first | (simp; done) | (dsimp only; omega)) _).kept u4 id
     have hU4 : Upd Nowhere w w4 := ((hU3).setNew (by first | exact Nat.le_refl _ | exact Nat.le_succ _ | (simp; done) | (dsimp only; omega)) _).trans u4 (fun _ _ h => h)
     obtain ⟨c_c0, c_c1, c_c2, z_c0, z_c1, z_c2⟩ := cells3 (hB_c4)
     obtain ⟨c_s0, c_s1, c_s2, c_s3, c_s4, z_s0, z_s1, z_s2, z_s3, z_s4⟩ := cells5 (hB_s4)
     obtain ⟨c_r0, c_r1, c_r2, c_r3, c_r4, z_r0, z_r1, z_r2, z_r3, z_r4⟩ := cells5 (hB_r4)
     have l_c4 := hB_c4.lt
     have l_s4 := hB_s4.lt
     have l_r4 := hB_r4.lt
     clear l_c3 l_s3 l_r3
     go_wp2_with fail
     refine ((H5 _).out).mono ?_
     rintro e w5 ⟨rfl, u5⟩
     clear c_c0 c_c1 c_c2 z_c0 z_c1 z_c2
     clear c_s0 c_s1 c_s2 c_s3 c_s4 z_s0 z_s1 z_s2 z_s3 z_s4
     clear c_r0 c_r1 c_r2 c_r3 c_r4 z_r0 z_r1 z_r2 z_r3 z_r4
     have hB_c5 : Blk w5 (w.heap.size) #[.int .u64 T, .int .u64 I, .int .u64 X] 56 := (hB_c4).kept u5 id
     have hB_s5 : Blk w5 (w.heap.size + 1) #[.int .u64 F, .int .u64 N, .int .u64 more, .int .u64 L, .bool true] 139 := (hB_s4).kept u5 id
     have hB_r5 : Blk w5 (w.heap.size + 1 + 1) #[.int .u64 0, .int .u64 0, .int .u64 0, .int .u64 0, .bool false] 139 := (hB_r4).kept u5 id
     have hU5 : Upd Nowhere w w5 := (hU4).trans u5 (fun _ _ h => h)
     clear u4
     obtain ⟨c_s0, c_s1, c_s2, c_s3, c_s4, z_s0, z_s1, z_s2, z_s3, z_s4⟩ := cells5 (hB_s5)
     obtain ⟨c_r0, c_r1, c_r2, c_r3, c_r4, z_r0, z_r1, z_r2, z_r3, z_r4⟩ := cells5 (hB_r5)
     have l_c5 := hB_c5.lt
     have l_s5 := hB_s5.lt
     have l_r5 := hB_r5.lt
     clear l_c4 l_s4 l_r4
     go_wp2_with fail
     exact bodyPost_ret (v := .tuple #[.agg #[.int .u64 F, .int .u64 y, .int .u64 more, .int .u64 more, .bool true], .bool true]) (by simp [results, Tryz.results92, go_sem, c_r0, c_r1, c_r2, c_r3, c_r4]) rfl ⟨rfl, by repeat (first | with_reducible exact hU5 | refine Upd.setNew ?_ (by first | (simp; done) | (dsimp only; omega)) _ | refine Upd.drewN ?_ _ | refine Upd.drew ?_ | refine Upd.alloc ?_ _)⟩
   · have t3 : decide (ago < lim) = false := decide_eq_false (by omega)
     rw [if_neg (by omega)] at hA
     subst hA
     clear hN hK hL h1 h2 hn ha hb hF hnF hp h1' h2'
     go_enter Tryz.func92, Tryz.ntmps92
     go_wp2_with fail
     refine ((H1 _).out).mono ?_
     rintro e w1 ⟨rfl, u1⟩
     have hB_c1 : Blk w1 (w.heap.size) #[.int .u64 T, .int .u64 I, .int .u64 X] 56 := (((Blk.new _ _ _).alloc _).alloc _).kept u1 id
     have hB_s1 : Blk w1 (w.heap.size + 1) #[.int .u64 F, .int .u64 N, .int .u64 K, .int .u64 L, .bool false] 139 := ((Blk.new2 _ _ _ _).alloc _).kept u1 id
     have hB_r1 : Blk w1 (w.heap.size + 1 + 1) #[.int .u64 0, .int .u64 0, .int .u64 0, .int .u64 0, .bool false] 139 := (Blk.new3 _ _ _ _ _).kept u1 id
     have hU1 : Upd Nowhere w w1 := ((((Upd.refl _ _).alloc _).alloc _).alloc _).trans u1 (fun _ _ h => h)
     obtain ⟨c_c0, c_c1, c_c2, z_c0, z_c1, z_c2⟩ := cells3 (hB_c1)
     obtain ⟨c_s0, c_s1, c_s2, c_s3, c_s4, z_s0, z_s1, z_s2, z_s3, z_s4⟩ := cells5 (hB_s1)
     obtain ⟨c_r0, c_r1, c_r2, c_r3, c_r4, z_r0, z_r1, z_r2, z_r3, z_r4⟩ := cells5 (hB_r1)
     have l_c1 := hB_c1.lt
     have l_s1 := hB_s1.lt
     have l_r1 := hB_r1.lt
     go_wp2_with fail
     refine ((H2 _).out).mono ?_
     rintro e w' ⟨rfl, rfl⟩
     go_wp2_with fail
     go_quiet ((go_at_call 116; exact quiet_same (H3 _).out))
     clear c_c0 c_c1 c_c2 z_c0 z_c1 z_c2
     clear c_s0 c_s1 c_s2 c_s3 c_s4 z_s0 z_s1 z_s2 z_s3 z_s4
     clear c_r0 c_r1 c_r2 c_r3 c_r4 z_r0 z_r1 z_r2 z_r3 z_r4
     have hB_c3 : Blk ((w1.setCell ⟨w.heap.size + 1, 4, none⟩ (.bool true)).drewN nq) (w.heap.size) #[.int .u64 T, .int .u64 I, .int .u64 X] 56 := ((hB_c1).setOther (by first | (simp; done) | (dsimp only; omega)) _).drewN nq
     have hB_s3 : Blk ((w1.setCell ⟨w.heap.size + 1, 4, none⟩ (.bool true)).drewN nq) (w.heap.size + 1) #[.int .u64 F, .int .u64 N, .int .u64 K, .int .u64 L, .bool true] 139 := ((hB_s1).set 4 (.bool true)).drewN nq
     have hB_r3 : Blk ((w1.setCell ⟨w.heap.size + 1, 4, none⟩ (.bool true)).drewN nq) (w.heap.size + 1 + 1) #[.int .u64 0, .int .u64 0, .int .u64 0, .int .u64 0, .bool false] 139 := ((hB_r1).setOther (by first | (simp; done) | (dsimp only; omega)) _).drewN nq
     have hU3 : Upd Nowhere w ((w1.setCell ⟨w.heap.size + 1, 4, none⟩ (.bool true)).drewN nq) := ((hU1).setNew (by first | exact Nat.le_refl _ | exact Nat.le_succ _ | (simp; done) | (dsimp only; omega)) _).drewN nq
     generalize (w1.setCell ⟨w.heap.size + 1, 4, none⟩ (.bool true)).drewN nq = w3 at *
     clear u1
     obtain ⟨c_c0, c_c1, c_c2, z_c0, z_c1, z_c2⟩ := cells3 (hB_c3)
     obtain ⟨c_s0, c_s1, c_s2, c_s3, c_s4, z_s0, z_s1, z_s2, z_s3, z_s4⟩ := cells5 (hB_s3)
     obtain ⟨c_r0, c_r1, c_r2, c_r3, c_r4, z_r0, z_r1, z_r2, z_r3, z_r4⟩ := cells5 (hB_r3)
     have l_c3 := hB_c3.lt
     have l_s3 := hB_s3.lt
     have l_r3 := hB_r3.lt
     clear l_c1 l_s1 l_r1
     go_wp2_with fail
     refine ((H4 _).out).mono ?_
     rintro e w4 ⟨rfl, u4⟩
     clear c_c0 c_c1 c_c2 z_c0 z_c1 z_c2
     clear c_s0 c_s1 c_s2 c_s3 c_s4 z_s0 z_s1 z_s2 z_s3 z_s4
     clear c_r0 c_r1 c_r2 c_r3 c_r4 z_r0 z_r1 z_r2 z_r3 z_r4
     have hB_c4 : Blk w4 (w.heap.size) #[.int .u64 T, .int .u64 I, .int .u64 X] 56 := ((hB_c3).setOther (by first | (simp; done) | (dsimp only; omega)) _).kept u4 id
     have hB_s4 : Blk w4 (w.heap.size + 1) #[.int .u64 F, .int .u64 N, .int .u64 1, .int .u64 L, .bool true] 139 := ((hB_s3).set 2 (.int .u64 1)).kept u4 id
     have hB_r4 : Blk w4 (w.heap.size + 1 + 1) #[.int .u64 0, .int .u64 0, .int .u64 0, .int .u64 0, .bool false] 139 := ((hB_r3).setOther (by first | (simp; done) | (dsimp only; omega)) _).kept u4 id
     have hU4 : Upd Nowhere w w4 := ((hU3).setNew (by first | exact Nat.le_refl _ | exact Nat.le_succ _ | (simp; done) | (dsimp only; omega)) _).trans u4 (fun _ _ h => h)
     obtain ⟨c_c0, c_c1, c_c2, z_c0, z_c1, z_c2⟩ := cells3 (hB_c4)
     obtain ⟨c_s0, c_s1, c_s2, c_s3, c_s4, z_s0, z_s1, z_s2, z_s3, z_s4⟩ := cells5 (hB_s4)
     obtain ⟨c_r0, c_r1, c_r2, c_r3, c_r4, z_r0, z_r1, z_r2, z_r3, z_r4⟩ := cells5 (hB_r4)
     have l_c4 := hB_c4.lt
     have l_s4 := hB_s4.lt
     have l_r4 := hB_r4.lt
     clear l_c3 l_s3 l_r3
     go_wp2_with fail
     refine ((H5 _).out).mono ?_
     rintro e w5 ⟨rfl, u5⟩
     clear c_c0 c_c1 c_c2 z_c0 z_c1 z_c2
     clear c_s0 c_s1 c_s2 c_s3 c_s4 z_s0 z_s1 z_s2 z_s3 z_s4
     clear c_r0 c_r1 c_r2 c_r3 c_r4 z_r0 z_r1 z_r2 z_r3 z_r4
     have hB_c5 : Blk w5 (w.heap.size) #[.int .u64 T, .int .u64 I, .int .u64 X] 56 := (hB_c4).kept u5 id
     have hB_s5 : Blk w5 (w.heap.size + 1) #[.int .u64 F, .int .u64 N, .int .u64 1, .int .u64 L, .bool true] 139 := (hB_s4).kept u5 id
     have hB_r5 : Blk w5 (w.heap.size + 1 + 1) #[.int .u64 0, .int .u64 0, .int .u64 0, .int .u64 0, .bool false] 139 := (hB_r4).kept u5 id
     have hU5 : Upd Nowhere w w5 := (hU4).trans u5 (fun _ _ h => h)
     clear u4
     obtain ⟨c_s0, c_s1, c_s2, c_s3, c_s4, z_s0, z_s1, z_s2, z_s3, z_s4⟩ := cells5 (hB_s5)
     obtain ⟨c_r0, c_r1, c_r2, c_r3, c_r4, z_r0, z_r1, z_r2, z_r3, z_r4⟩ := cells5 (hB_r5)
     have l_c5 := hB_c5.lt
     have l_s5 := hB_s5.lt
     have l_r5 := hB_r5.lt
     clear l_c4 l_s4 l_r4
     go_wp2_with fail
     exact bodyPost_ret (v := .tuple #[.agg #[.int .u64 F, .int .u64 y, .int .u64 1, .int .u64 1, .bool true], .bool true]) (by simp [results, Tryz.results92, go_sem, c_r0, c_r1, c_r2, c_r3, c_r4]) rfl ⟨rfl, by repeat (first | with_reducible exact hU5 | refine Upd.setNew ?_ (by first | (simp; done) | (dsimp only; omega)) _ | refine Upd.drewN ?_ _ | refine Upd.drew ?_ | refine Upd.alloc ?_ _)⟩
 · have t1 : decide ((more : Int) > 1) = false := decide_eq_false (by omega)
   have t2 : decide (1 < (more : Int)) = false := decide_eq_false (by omega)
   rw [if_neg (by omega)] at hA
   subst hA
   clear hN hK hL h1 h2 hn ha hb hF hnF hp h1'
   go_enter Tryz.func92, Tryz.ntmps92
   go_wp2_with fail
   refine ((H1 _).out).mono ?_
   rintro e w1 ⟨rfl, u1⟩
   have hB_c1 : Blk w1 (w.heap.size) #[.int .u64 T, .int .u64 I, .int .u64 X] 56 := (((Blk.new _ _ _).alloc _).alloc _).kept u1 id
   have hB_s1 : Blk w1 (w.heap.size + 1) #[.int .u64 F, .int .u64 N, .int .u64 K, .int .u64 L, .bool false] 139 := ((Blk.new2 _ _ _ _).alloc _).kept u1 id
   have hB_r1 : Blk w1 (w.heap.size + 1 + 1) #[.int .u64 0, .int .u64 0, .int .u64 0, .int .u64 0, .bool false] 139 := (Blk.new3 _ _ _ _ _).kept u1 id
   have hU1 : Upd Nowhere w w1 := ((((Upd.refl _ _).alloc _).alloc _).alloc _).trans u1 (fun _ _ h => h)
   obtain ⟨c_c0, c_c1, c_c2, z_c0, z_c1, z_c2⟩ := cells3 (hB_c1)
   obtain ⟨c_s0, c_s1, c_s2, c_s3, c_s4, z_s0, z_s1, z_s2, z_s3, z_s4⟩ := cells5 (hB_s1)
   obtain ⟨c_r0, c_r1, c_r2, c_r3, c_r4, z_r0, z_r1, z_r2, z_r3, z_r4⟩ := cells5 (hB_r1)
   have l_c1 := hB_c1.lt
   have l_s1 := hB_s1.lt
   have l_r1 := hB_r1.lt
   go_wp2_with fail
   refine ((H2 _).out).mono ?_
   rintro e w' ⟨rfl, rfl⟩
   go_wp2_with fail
   go_quiet ((go_at_call 116; exact quiet_same (H3 _).out))
   clear c_c0 c_c1 c_c2 z_c0 z_c1 z_c2
   clear c_s0 c_s1 c_s2 c_s3 c_s4 z_s0 z_s1 z_s2 z_s3 z_s4
   clear c_r0 c_r1 c_r2 c_r3 c_r4 z_r0 z_r1 z_r2 z_r3 z_r4
   have hB_c3 : Blk ((w1.setCell ⟨w.heap.size + 1, 4, none⟩ (.bool true)).drewN nq) (w.heap.size) #[.int .u64 T, .int .u64 I, .int .u64 X] 56 := ((hB_c1).setOther (by first | (simp; done) | (dsimp only; omega)) _).drewN nq
   have hB_s3 : Blk ((w1.setCell ⟨w.heap.size + 1, 4, none⟩ (.bool true)).drewN nq) (w.heap.size + 1) #[.int .u64 F, .int .u64 N, .int .u64 K, .int .u64 L, .bool true] 139 := ((hB_s1).set 4 (.bool true)).drewN nq
   have hB_r3 : Blk ((w1.setCell ⟨w.heap.size + 1, 4, none⟩ (.bool true)).drewN nq) (w.heap.size + 1 + 1) #[.int .u64 0, .int .u64 0, .int .u64 0, .int .u64 0, .bool false] 139 := ((hB_r1).setOther (by first | (simp; done) | (dsimp only; omega)) _).drewN nq
   have hU3 : Upd Nowhere w ((w1.setCell ⟨w.heap.size + 1, 4, none⟩ (.bool true)).drewN nq) := ((hU1).setNew (by first | exact Nat.le_refl _ | exact Nat.le_succ _ | (simp; done) | (dsimp only; omega)) _).drewN nq
   generalize (w1.setCell ⟨w.heap.size + 1, 4, none⟩ (.bool true)).drewN nq = w3 at *
   clear u1
   obtain ⟨c_c0, c_c1, c_c2, z_c0, z_c1, z_c2⟩ := cells3 (hB_c3)
   obtain ⟨c_s0, c_s1, c_s2, c_s3, c_s4, z_s0, z_s1, z_s2, z_s3, z_s4⟩ := cells5 (hB_s3)
   obtain ⟨c_r0, c_r1, c_r2, c_r3, c_r4, z_r0, z_r1, z_r2, z_r3, z_r4⟩ := cells5 (hB_r3)
   have l_c3 := hB_c3.lt
   have l_s3 := hB_s3.lt
   have l_r3 := hB_r3.lt
   clear l_c1 l_s1 l_r1
   go_wp2_with fail
   refine ((H4 _).out).mono ?_
   rintro e w4 ⟨rfl, u4⟩
   clear c_c0 c_c1 c_c2 z_c0 z_c1 z_c2
   clear c_s0 c_s1 c_s2 c_s3 c_s4 z_s0 z_s1 z_s2 z_s3 z_s4
   clear c_r0 c_r1 c_r2 c_r3 c_r4 z_r0 z_r1 z_r2 z_r3 z_r4
   have hB_c4 : Blk w4 (w.heap.size) #[.int .u64 T, .int .u64 I, .int .u64 X] 56 := ((hB_c3).setOther (by first | (simp; done) | (dsimp only; omega)) _).kept u4 id
   have hB_s4 : Blk w4 (w.heap.size + 1) #[.int .u64 F, .int .u64 N, .int .u64 1, .int .u64 L, .bool true] 139 := ((hB_s3).set 2 (.int .u64 1)).kept u4 id
   have hB_r4 : Blk w4 (w.heap.size + 1 + 1) #[.int .u64 0, .int .u64 0, .int .u64 0, .int .u64 0, .bool false] 139 := ((hB_r3).setOther (by first | (simp; done) | (dsimp only; omega)) _).kept u4 id
   have hU4 : Upd Nowhere w w4 := ((hU3).setNew (by first | exact Nat.le_refl _ | exact Nat.le_succ _ | (simp; done) | (dsimp only; omega)) _).trans u4 (fun _ _ h => h)
   obtain ⟨c_c0, c_c1, c_c2, z_c0, z_c1, z_c2⟩ := cells3 (hB_c4)
   obtain ⟨c_s0, c_s1, c_s2, c_s3, c_s4, z_s0, z_s1, z_s2, z_s3, z_s4⟩ := cells5 (hB_s4)
   obtain ⟨c_r0, c_r1, c_r2, c_r3, c_r4, z_r0, z_r1, z_r2, z_r3, z_r4⟩ := cells5 (hB_r4)
   have l_c4 := hB_c4.lt
   have l_s4 := hB_s4.lt
   have l_r4 := hB_r4.lt
   clear l_c3 l_s3 l_r3
   go_wp2_with fail
   refine ((H5 _).out).mono ?_
   rintro e w5 ⟨rfl, u5⟩
   clear c_c0 c_c1 c_c2 z_c0 z_c1 z_c2
   clear c_s0 c_s1 c_s2 c_s3 c_s4 z_s0 z_s1 z_s2 z_s3 z_s4
   clear c_r0 c_r1 c_r2 c_r3 c_r4 z_r0 z_r1 z_r2 z_r3 z_r4
   have hB_c5 : Blk w5 (w.heap.size) #[.int .u64 T, .int .u64 I, .int .u64 X] 56 := (hB_c4).kept u5 id
   have hB_s5 : Blk w5 (w.heap.size + 1) #[.int .u64 F, .int .u64 N, .int .u64 1, .int .u64 L, .bool true] 139 := (hB_s4).kept u5 id
   have hB_r5 : Blk w5 (w.heap.size + 1 + 1) #[.int .u64 0, .int .u64 0, .int .u64 0, .int .u64 0, .bool false] 139 := (hB_r4).kept u5 id
   have hU5 : Upd Nowhere w w5 := (hU4).trans u5 (fun _ _ h => h)
   clear u4
   obtain ⟨c_s0, c_s1, c_s2, c_s3, c_s4, z_s0, z_s1, z_s2, z_s3, z_s4⟩ := cells5 (hB_s5)
   obtain ⟨c_r0, c_r1, c_r2, c_r3, c_r4, z_r0, z_r1, z_r2, z_r3, z_r4⟩ := cells5 (hB_r5)
   have l_c5 := hB_c5.lt
   have l_s5 := hB_s5.lt
   have l_r5 := hB_r5.lt
   clear l_c4 l_s4 l_r4
   go_wp2_with fail
   exact bodyPost_ret (v := .tuple #[.agg #[.int .u64 F, .int .u64 y, .int .u64 1, .int .u64 1, .bool true], .bool true]) (by simp [results, Tryz.results92, go_sem, c_r0, c_r1, c_r2, c_r3, c_r4]) rfl ⟨rfl, by repeat (first | with_reducible exact hU5 | refine Upd.setNew ?_ (by first | (simp; done) | (dsimp only; omega)) _ | refine Upd.drewN ?_ _ | refine Upd.drew ?_ | refine Upd.alloc ?_ _)⟩
/-- What a packet makes of a state, and whether it is let go. -/
def stp (T I X F N K L : Nat) (D : Bool) (now wt bh : Nat) : (Nat × Nat × Nat × Nat × Bool) × Bool :=
 if 1 ≤ I ∧ I ≤ 2147483648 then
  match tm T I X F now wt bh with
  | (f, false) => ((f, N, K, L, false), false)
  | (f, true) => match D with
    | false => ((f, min (now + Root.part I (anew I N K L now)) 18446744073709551615, anew I N K L now, anew I N K L now, true), true)
    | true => if now < N then ((f, N, K, L, true), false) else ((f, min (N + Root.part I (min (K + 1) 18446744073709551615)) 18446744073709551615, min (K + 1) 18446744073709551615, L, true), true)
 else ((F, N, K, L, D), false)
/-- A state, and a bool, as values. -/
def out (r : (Nat × Nat × Nat × Nat × Bool) × Bool) : Value := .tuple #[.agg #[.int .u64 (r.1.1 : Nat), .int .u64 (r.1.2.1 : Nat), .int .u64 (r.1.2.2.1 : Nat), .int .u64 (r.1.2.2.2.1 : Nat), .bool r.1.2.2.2.2], .bool r.2]
theorem step_any (T I X F N K L : Nat) (D : Bool) (now wt bh : Nat) (hN : N ≤ 18446744073709551615) (hK : K ≤ 18446744073709551615) (hL : L ≤ 18446744073709551615) (hn : now ≤ 18446744073709551615) (w : World) : Calls Tryz.prog 72 #[.agg #[.int .u64 T, .int .u64 I, .int .u64 X], .agg #[.int .u64 F, .int .u64 N, .int .u64 K, .int .u64 L, .bool D], .int .u64 now, .int .u64 wt, .int .u64 bh] w fun e w' => Gives w (out (stp T I X F N K L D now wt bh)) e w' := by
 by_cases hI : 1 ≤ I ∧ I ≤ 2147483648
 · obtain ⟨h1, h2⟩ := hI
   unfold stp
   rw [if_pos ⟨h1, h2⟩]
   obtain ⟨⟨f, b⟩, hm⟩ : ∃ r, tm T I X F now wt bh = r := ⟨_, rfl⟩
   rw [hm]
   cases b with
   | false => exact s_wait T I X F N K L now wt bh D h1 h2 hn f hm w
   | true =>
     cases D with
     | false => exact s_begin T I X F N K L now wt bh h1 h2 hn f hN hK hL hm w
     | true =>
       rcases Nat.lt_or_ge now N with h | h
       · simp only [if_pos h]
         exact s_early T I X F N K L now wt bh h1 h2 hn f h hm w
       · simp only [if_neg (Nat.not_lt.2 h)]
         exact s_more T I X F N K L now wt bh h1 h2 hn f h hK hm w
 · unfold stp
   rw [if_neg hI]
   exact s_no T I X F N K L now wt bh D hI w
theorem rstep_any (T I X F N K L : Nat) (D : Bool) (now wt bh : Nat) (hN : N ≤ 18446744073709551615) (hK : K ≤ 18446744073709551615) (hL : L ≤ 18446744073709551615) (hn : now ≤ 18446744073709551615) (w : World) : Calls Tryz.prog 92 #[.agg #[.int .u64 T, .int .u64 I, .int .u64 X], .agg #[.int .u64 F, .int .u64 N, .int .u64 K, .int .u64 L, .bool D], .int .u64 now, .int .u64 wt, .int .u64 bh] w fun e w' => Gives w (out (stp T I X F N K L D now wt bh)) e w' := by
 by_cases hI : 1 ≤ I ∧ I ≤ 2147483648
 · obtain ⟨h1, h2⟩ := hI
   unfold stp
   rw [if_pos ⟨h1, h2⟩]
   by_cases hl : wt < T ∨ bh ≤ X
   · have hm : tm T I X F now wt bh = (0, false) := by unfold tm; rw [if_pos hl]
     rw [hm]
     cases D with
     | false => exact r_late_false T I X F N K L now wt bh h1 h2 hl w
     | true => exact r_late_true T I X F N K L now wt bh h1 h2 hl w
   · have ha : T ≤ wt := by omega
     have hb : X < bh := by omega
     rcases Nat.eq_zero_or_pos F with rfl | hF
     · have hm : tm T I X 0 now wt bh = (min (now + I) 18446744073709551615, false) := by unfold tm; rw [if_neg hl, if_pos rfl]
       rw [hm]
       cases D with
       | false => exact r_new_false T I X N K L now wt bh h1 h2 hn ha hb w
       | true => exact r_new_true T I X N K L now wt bh h1 h2 hn ha hb w
     · rcases Nat.lt_or_ge now F with hnF | hnF
       · have hm : tm T I X F now wt bh = (F, false) := by unfold tm; rw [if_neg hl, if_neg (by omega), decide_eq_false (by omega)]
         rw [hm]
         cases D with
         | false => exact r_wait_false T I X F N K L now wt bh h1 h2 ha hb hF hnF w
         | true => exact r_wait_true T I X F N K L now wt bh h1 h2 ha hb hF hnF w
       · have hm : tm T I X F now wt bh = (F, true) := by unfold tm; rw [if_neg hl, if_neg (by omega), decide_eq_true hnF]
         rw [hm]
         cases D with
         | false => exact r_begin T I X F N K L now wt bh h1 h2 hn ha hb hF hnF hN hK hL w
         | true =>
           rcases Nat.lt_or_ge now N with h | h
           · simp only [if_pos h]
             exact r_early T I X F N K L now wt bh h1 h2 ha hb hF hnF h w
           · simp only [if_neg (Nat.not_lt.2 h)]
             exact r_more T I X F N K L now wt bh h1 h2 hn ha hb hF hnF h hK w
 · unfold stp
   rw [if_neg hI]
   exact r_no T I X F N K L now wt bh D hI w
end Go.Proofs.YtdddfmdcjjbegaaGreat.Codel

