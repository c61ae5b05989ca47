/- Codel, one behind the other. -/
import Derived.Test.YtdddfmdcjjbegaaGreatMeRoot
import Derived.Test.YtdddfmdcjjbegaaGreatMeA
import Derived.Deep.RegionHeld3
namespace Go.Proofs.YtdddfmdcjjbegaaGreat.Codel
open Go.RowKit Go.Proofs BigFrame
open Wide (Gives)

open Bits (sat_add wrapN)
set_option maxHeartbeats 2000000
set_option maxRecDepth 100000
/-- What is first, and whether it is time. -/
def tm (T I X F now wt bh : Nat) : Nat × Bool := if wt < T ∨ bh ≤ X then (0, false) else if F = 0 then (min (now + I) 18446744073709551615, false) else (F, decide (F ≤ now))
/-- How many, where it begins anew. -/
def anew (I N K L now : Nat) : Nat := if 1 < K - L ∧ now - N < 16 * I then K - L else 1
theorem check_ok (T I X : Nat) (h1 : 1 ≤ I) (h2 : I ≤ 2147483648) (w : World) : Calls Tryz.prog 104 #[.agg #[.int .u64 T, .int .u64 I, .int .u64 X]] w fun e w' => Gives w (.int .i64 0) e w' := by
 have t0 : decide ((I : Int) < 1) = false := decide_eq_false (by omega)
 have t1 : decide ((I : Int) > 2147483648) = false := decide_eq_false (by omega)
 have t2 : decide (2147483648 < (I : Int)) = false := decide_eq_false (by omega)
 go_enter Tryz.func104, Tryz.ntmps104
 go_wp2_with fail
 go_ret
 exact ⟨rfl, (Upd.refl _ _).alloc _⟩
theorem check_no (T I X : Nat) (h : ¬(1 ≤ I ∧ I ≤ 2147483648)) (w : World) : Calls Tryz.prog 104 #[.agg #[.int .u64 T, .int .u64 I, .int .u64 X]] w fun e w' => Gives w (.int .i64 6) e w' := by
 rcases Nat.eq_zero_or_pos I with rfl | hp
 · clear h
   go_enter Tryz.func104, Tryz.ntmps104
   go_wp2_with fail
   go_ret
   exact ⟨rfl, (Upd.refl _ _).alloc _⟩
 · have t0 : decide ((I : Int) < 1) = false := decide_eq_false (by omega)
   have t1 : decide ((I : Int) > 2147483648) = true := decide_eq_true (by omega)
   have t2 : decide (2147483648 < (I : Int)) = true := decide_eq_true (by omega)
   clear h
   go_enter Tryz.func104, Tryz.ntmps104
   go_wp2_with fail
   go_ret
   exact ⟨rfl, (Upd.refl _ _).alloc _⟩
theorem may_ok (T I X : Nat) (h1 : 1 ≤ I) (h2 : I ≤ 2147483648) (w : World) : Calls Tryz.prog 81 #[.agg #[.int .u64 T, .int .u64 I, .int .u64 X]] w fun e w' => Gives w (.bool true) e w' := by
 have t0 : decide ((I : Int) ≥ 1) = true := decide_eq_true (by omega)
 have t1 : decide ((I : Int) ≤ 2147483648) = true := decide_eq_true (by omega)
 go_enter Tryz.func81, Tryz.ntmps81
 go_wp2_with fail
 go_ret
 exact ⟨rfl, (Upd.refl _ _).alloc _⟩
theorem may_no (T I X : Nat) (h : ¬(1 ≤ I ∧ I ≤ 2147483648)) (w : World) : Calls Tryz.prog 81 #[.agg #[.int .u64 T, .int .u64 I, .int .u64 X]] w fun e w' => Gives w (.bool false) e w' := by
 rcases Nat.eq_zero_or_pos I with rfl | hp
 · clear h
   go_enter Tryz.func81, Tryz.ntmps81
   go_wp2_with fail
   go_ret
   exact ⟨rfl, (Upd.refl _ _).alloc _⟩
 · have t0 : decide ((I : Int) ≥ 1) = true := decide_eq_true (by omega)
   have t1 : decide ((I : Int) ≤ 2147483648) = false := decide_eq_false (by omega)
   clear h
   go_enter Tryz.func81, Tryz.ntmps81
   go_wp2_with fail
   go_ret
   exact ⟨rfl, (Upd.refl _ _).alloc _⟩
theorem time_any (T I X F now wt bh : Nat) (hI : I ≤ 18446744073709551615) (hn : now ≤ 18446744073709551615) (w : World) : Calls Tryz.prog 105 #[.agg #[.int .u64 T, .int .u64 I, .int .u64 X], .int .u64 F, .int .u64 now, .int .u64 wt, .int .u64 bh] w fun e w' => Gives w (.tuple #[.int .u64 ((tm T I X F now wt bh).1 : Nat), .bool (tm T I X F now wt bh).2]) e w' := by
 rcases Nat.lt_or_ge wt T with h1 | h1
 · have e : tm T I X F now wt bh = (0, false) := by unfold tm; rw [if_pos (by omega)]
   rw [e]
   clear hI hn e
   go_enter Tryz.func105, Tryz.ntmps105
   go_wp2_with fail
   go_ret2
   exact ⟨rfl, (Upd.refl _ _).alloc _⟩
 · rcases Nat.lt_or_ge X bh with h2 | h2
   · rcases Nat.eq_zero_or_pos F with rfl | h3
     · have e : tm T I X 0 now wt bh = (min (now + I) 18446744073709551615, false) := by unfold tm; rw [if_neg (by omega), if_pos rfl]
       rw [e]
       have H1 := fun u => Lib.hid (sat_add now I u hn hI)
       generalize min (now + I) 18446744073709551615 = y at *
       clear hI hn e
       go_enter Tryz.func105, Tryz.ntmps105
       go_wp2_with fail
       refine ((H1 _).out).mono ?_
       rintro e w' ⟨rfl, rfl⟩
       go_wp2_with fail
       go_ret2
       exact ⟨rfl, (Upd.refl _ _).alloc _⟩
     · have e : tm T I X F now wt bh = (F, decide (F ≤ now)) := by unfold tm; rw [if_neg (by omega), if_neg (by omega)]
       rw [e]
       have e3 : ((F : Int) == 0) = false := by simp; omega
       clear hI hn e h3
       rcases Nat.lt_or_ge now F with h4 | h4
       · have t4 : decide (F ≤ now) = false := decide_eq_false (by omega)
         rw [t4]
         go_enter Tryz.func105, Tryz.ntmps105
         go_wp2_with fail
         go_ret2
         exact ⟨by simp, (Upd.refl _ _).alloc _⟩
       · have t4 : decide (F ≤ now) = true := decide_eq_true (by omega)
         rw [t4]
         go_enter Tryz.func105, Tryz.ntmps105
         go_wp2_with fail
         go_ret2
         exact ⟨by simp, (Upd.refl _ _).alloc _⟩
   · have e : tm T I X F now wt bh = (0, false) := by unfold tm; rw [if_pos (by omega)]
     rw [e]
     clear hI hn e
     go_enter Tryz.func105, Tryz.ntmps105
     go_wp2_with fail
     go_ret2
     exact ⟨rfl, (Upd.refl _ _).alloc _⟩
theorem goes_any (F N K L T I X fr : Nat) (D : Bool) (hK : K ≤ 18446744073709551615) (hf : fr ≤ 18446744073709551615) (w : World) : Calls Tryz.prog 107 #[.agg #[.int .u64 F, .int .u64 N, .int .u64 K, .int .u64 L, .bool D], .agg #[.int .u64 T, .int .u64 I, .int .u64 X], .int .u64 fr] w fun e w' => Gives w (.agg #[.int .u64 F, .int .u64 (min (fr + Root.part I K) 18446744073709551615 : Nat), .int .u64 K, .int .u64 L, .bool D]) e w' := by
 have H1 := fun u => Lib.hid (Root.part_any I K hK u)
 have hp : Root.part I K ≤ 18446744073709551615 := Nat.le_trans (Root.part_le I K) (Nat.le_trans (Nat.min_le_right _ _) (by omega))
 have H2 := fun u => Lib.hid (sat_add fr (Root.part I K) u hf hp)
 generalize Root.part I K = p at *
 generalize min (fr + p) 18446744073709551615 = y at *
 clear hK hf hp
 go_enter Tryz.func107, Tryz.ntmps107
 go_wp2_with fail
 refine ((H1 _).out).mono ?_
 rintro e w' ⟨rfl, rfl⟩
 go_wp2_with fail
 refine ((H2 _).out).mono ?_
 rintro e w' ⟨rfl, rfl⟩
 go_wp2_with fail
 exact bodyPost_ret (v := .agg #[.int .u64 F, .int .u64 y, .int .u64 K, .int .u64 L, .bool D]) (by simp [results, Tryz.results107, go_sem]) rfl ⟨rfl, by repeat (first | exact Upd.refl _ _ | refine Upd.setNew ?_ (by first | exact Nat.le_refl _ | exact Nat.le_succ _ | exact Nat.le_succ_of_le (Nat.le_succ _) | (simp; done) | omega) _ | refine Upd.drewN ?_ _ | refine Upd.drew ?_ | refine Upd.alloc ?_ _)⟩
theorem begins_any (F N K L T I X now : Nat) (D : Bool) (hN : N ≤ 18446744073709551615) (hK : K ≤ 18446744073709551615) (hL : L ≤ 18446744073709551615) (hI : I ≤ 2147483648) (hn : now ≤ 18446744073709551615) (w : World) : Calls Tryz.prog 106 #[.agg #[.int .u64 F, .int .u64 N, .int .u64 K, .int .u64 L, .bool D], .agg #[.int .u64 T, .int .u64 I, .int .u64 X], .int .u64 now] w fun e w' => Gives w (.agg #[.int .u64 F, .int .u64 (min (now + Root.part I (anew I N K L now)) 18446744073709551615 : Nat), .int .u64 (anew I N K L now : Nat), .int .u64 (anew I N K L now : Nat), .bool true]) e w' := by
 have hA : anew I N K L now ≤ 18446744073709551615 := by unfold anew; split <;> omega
 have H1 := fun u => Lib.hid (Sat.sat_sub K L hK hL u)
 have H2 := fun u => Lib.hid (Sat.sat_sub now N hn hN u)
 have H3 := fun u => Lib.hid (goes_any F N (anew I N K L now) (anew I N K L now) T I X now true hA hn u)
 have e16 : IntKind.u64.wrap (16 * (I : Int)) = ((16 * I : Nat) : Int) := by rw [IntKind.wrap_u64]; omega
 obtain ⟨A, hA⟩ : ∃ A, anew I N K L now = A := ⟨_, rfl⟩
 rw [hA] at H3 ⊢
 unfold anew at hA
 generalize min (now + Root.part I A) 18446744073709551615 = y at *
 generalize K - L = more at *
 generalize now - N = ago at *
 generalize 16 * I = lim at *
 rcases Nat.lt_or_ge 1 more with h1 | h1
 · have t1 : decide ((more : Int) > 1) = true := decide_eq_true (by omega)
   have t2 : decide (1 < (more : Int)) = true := decide_eq_true (by omega)
   rcases Nat.lt_or_ge ago lim with h2 | h2
   · have t3 : decide (ago < lim) = true := decide_eq_true (by omega)
     rw [if_pos ⟨h1, h2⟩] at hA
     subst hA
     clear hN hK hL hI hn h1 h2
     go_enter Tryz.func106, Tryz.ntmps106
     go_wp2_with fail
     refine ((H1 _).out).mono ?_
     rintro e w' ⟨rfl, rfl⟩
     go_wp2_with fail
     go_quiet ((go_at_call 124; exact quiet_same (H2 _).out))
     have hB_s1 : Blk ((((w.alloc (.cells #[.int .u64 F, .int .u64 N, .int .u64 1, .int .u64 L, .bool D] 92)).alloc (.cells #[.int .u64 T, .int .u64 I, .int .u64 X] 77)).alloc (.cells #[.int .u64 0, .int .u64 0, .int .u64 0, .int .u64 0, .bool false] 92)).drewN nq) (w.heap.size) #[.int .u64 F, .int .u64 N, .int .u64 1, .int .u64 L, .bool D] 92 := (((Blk.new _ _ _).alloc _).alloc _).drewN nq
     have hB_c1 : Blk ((((w.alloc (.cells #[.int .u64 F, .int .u64 N, .int .u64 1, .int .u64 L, .bool D] 92)).alloc (.cells #[.int .u64 T, .int .u64 I, .int .u64 X] 77)).alloc (.cells #[.int .u64 0, .int .u64 0, .int .u64 0, .int .u64 0, .bool false] 92)).drewN nq) (w.heap.size + 1) #[.int .u64 T, .int .u64 I, .int .u64 X] 77 := ((Blk.new2 _ _ _ _).alloc _).drewN nq
     have hB_r1 : Blk ((((w.alloc (.cells #[.int .u64 F, .int .u64 N, .int .u64 1, .int .u64 L, .bool D] 92)).alloc (.cells #[.int .u64 T, .int .u64 I, .int .u64 X] 77)).alloc (.cells #[.int .u64 0, .int .u64 0, .int .u64 0, .int .u64 0, .bool false] 92)).drewN nq) (w.heap.size + 1 + 1) #[.int .u64 0, .int .u64 0, .int .u64 0, .int .u64 0, .bool false] 92 := (Blk.new3 _ _ _ _ _).drewN nq
     have hU1 : Upd Nowhere w ((((w.alloc (.cells #[.int .u64 F, .int .u64 N, .int .u64 1, .int .u64 L, .bool D] 92)).alloc (.cells #[.int .u64 T, .int .u64 I, .int .u64 X] 77)).alloc (.cells #[.int .u64 0, .int .u64 0, .int .u64 0, .int .u64 0, .bool false] 92)).drewN nq) := ((((Upd.refl _ _).alloc _).alloc _).alloc _).drewN nq
     generalize (((w.alloc (.cells #[.int .u64 F, .int .u64 N, .int .u64 1, .int .u64 L, .bool D] 92)).alloc (.cells #[.int .u64 T, .int .u64 I, .int .u64 X] 77)).alloc (.cells #[.int .u64 0, .int .u64 0, .int .u64 0, .int .u64 0, .bool false] 92)).drewN nq = w1 at *
     obtain ⟨c_s0, c_s1, c_s2, c_s3, c_s4, z_s0, z_s1, z_s2, z_s3, z_s4⟩ := cells5 (hB_s1)
     obtain ⟨c_c0, c_c1, c_c2, z_c0, z_c1, z_c2⟩ := cells3 (hB_c1)
     obtain ⟨c_r0, c_r1, c_r2, c_r3, c_r4, z_r0, z_r1, z_r2, z_r3, z_r4⟩ := cells5 (hB_r1)
     have l_s1 := hB_s1.lt
     have l_c1 := hB_c1.lt
     have l_r1 := hB_r1.lt
     go_wp2_with fail
     refine ((H3 _).out).mono ?_
     rintro e w2 ⟨rfl, u2⟩
     clear c_s0 c_s1 c_s2 c_s3 c_s4 z_s0 z_s1 z_s2 z_s3 z_s4
     clear c_c0 c_c1 c_c2 z_c0 z_c1 z_c2
     clear c_r0 c_r1 c_r2 c_r3 c_r4 z_r0 z_r1 z_r2 z_r3 z_r4
     have hB_s2 : Blk w2 (w.heap.size) #[.int .u64 F, .int .u64 N, .int .u64 more, .int .u64 more, .bool true] 92 := ((((hB_s1).set 2 (.int .u64 more)).set 4 (.bool true)).set 3 (.int .u64 more)).kept u2 id
     have hB_r2 : Blk w2 (w.heap.size + 1 + 1) #[.int .u64 0, .int .u64 0, .int .u64 0, .int .u64 0, .bool false] 92 := ((((hB_r1).setOther (by first | (simp; done) | (dsimp only; omega)) _).setOther (by first | (simp; done) | (dsimp only; omega)) _).setOther (by first | (simp; done) | (dsimp only; omega)) _).kept u2 id
     have hU2 : Upd Nowhere w w2 := ((((hU1).setNew (by first | exact Nat.le_refl _ | exact Nat.le_succ _ | (simp; done) | (dsimp only; omega)) _).setNew (by first | exact Nat.le_refl _ | exact Nat.le_succ _ | (simp; done) | (dsimp only; omega)) _).setNew (by first | exact Nat.le_refl _ | exact Nat.le_succ _ | (simp; done) | (dsimp only; omega)) _).trans u2 (fun _ _ h => h)
     obtain ⟨c_r0, c_r1, c_r2, c_r3, c_r4, z_r0, z_r1, z_r2, z_r3, z_r4⟩ := cells5 (hB_r2)
     have l_s2 := hB_s2.lt
     have l_r2 := hB_r2.lt
     clear l_s1 l_c1 l_r1
     go_wp2_with fail
     exact bodyPost_ret (v := .agg #[.int .u64 F, .int .u64 y, .int .u64 more, .int .u64 more, .bool true]) (by simp [results, Tryz.results106, go_sem, c_r0, c_r1, c_r2, c_r3, c_r4]) rfl ⟨rfl, by repeat (first | exact hU2 | refine Upd.setNew ?_ (by first | exact Nat.le_refl _ | exact Nat.le_succ _ | exact Nat.le_succ_of_le (Nat.le_succ _) | (simp; done) | omega) _ | refine Upd.drewN ?_ _ | refine Upd.drew ?_ | refine Upd.alloc ?_ _)⟩
   · have t3 : decide (ago < lim) = false := decide_eq_false (by omega)
     rw [if_neg (by omega)] at hA
     subst hA
     clear hN hK hL hI hn h1 h2
     go_enter Tryz.func106, Tryz.ntmps106
     go_wp2_with fail
     refine ((H1 _).out).mono ?_
     rintro e w' ⟨rfl, rfl⟩
     go_wp2_with fail
     go_quiet ((go_at_call 124; exact quiet_same (H2 _).out))
     have hB_s1 : Blk ((((w.alloc (.cells #[.int .u64 F, .int .u64 N, .int .u64 1, .int .u64 L, .bool D] 92)).alloc (.cells #[.int .u64 T, .int .u64 I, .int .u64 X] 77)).alloc (.cells #[.int .u64 0, .int .u64 0, .int .u64 0, .int .u64 0, .bool false] 92)).drewN nq) (w.heap.size) #[.int .u64 F, .int .u64 N, .int .u64 1, .int .u64 L, .bool D] 92 := (((Blk.new _ _ _).alloc _).alloc _).drewN nq
     have hB_c1 : Blk ((((w.alloc (.cells #[.int .u64 F, .int .u64 N, .int .u64 1, .int .u64 L, .bool D] 92)).alloc (.cells #[.int .u64 T, .int .u64 I, .int .u64 X] 77)).alloc (.cells #[.int .u64 0, .int .u64 0, .int .u64 0, .int .u64 0, .bool false] 92)).drewN nq) (w.heap.size + 1) #[.int .u64 T, .int .u64 I, .int .u64 X] 77 := ((Blk.new2 _ _ _ _).alloc _).drewN nq
     have hB_r1 : Blk ((((w.alloc (.cells #[.int .u64 F, .int .u64 N, .int .u64 1, .int .u64 L, .bool D] 92)).alloc (.cells #[.int .u64 T, .int .u64 I, .int .u64 X] 77)).alloc (.cells #[.int .u64 0, .int .u64 0, .int .u64 0, .int .u64 0, .bool false] 92)).drewN nq) (w.heap.size + 1 + 1) #[.int .u64 0, .int .u64 0, .int .u64 0, .int .u64 0, .bool false] 92 := (Blk.new3 _ _ _ _ _).drewN nq
     have hU1 : Upd Nowhere w ((((w.alloc (.cells #[.int .u64 F, .int .u64 N, .int .u64 1, .int .u64 L, .bool D] 92)).alloc (.cells #[.int .u64 T, .int .u64 I, .int .u64 X] 77)).alloc (.cells #[.int .u64 0, .int .u64 0, .int .u64 0, .int .u64 0, .bool false] 92)).drewN nq) := ((((Upd.refl _ _).alloc _).alloc _).alloc _).drewN nq
     generalize (((w.alloc (.cells #[.int .u64 F, .int .u64 N, .int .u64 1, .int .u64 L, .bool D] 92)).alloc (.cells #[.int .u64 T, .int .u64 I, .int .u64 X] 77)).alloc (.cells #[.int .u64 0, .int .u64 0, .int .u64 0, .int .u64 0, .bool false] 92)).drewN nq = w1 at *
     obtain ⟨c_s0, c_s1, c_s2, c_s3, c_s4, z_s0, z_s1, z_s2, z_s3, z_s4⟩ := cells5 (hB_s1)
     obtain ⟨c_c0, c_c1, c_c2, z_c0, z_c1, z_c2⟩ := cells3 (hB_c1)
     obtain ⟨c_r0, c_r1, c_r2, c_r3, c_r4, z_r0, z_r1, z_r2, z_r3, z_r4⟩ := cells5 (hB_r1)
     have l_s1 := hB_s1.lt
     have l_c1 := hB_c1.lt
     have l_r1 := hB_r1.lt
     go_wp2_with fail
     refine ((H3 _).out).mono ?_
     rintro e w2 ⟨rfl, u2⟩
     clear c_s0 c_s1 c_s2 c_s3 c_s4 z_s0 z_s1 z_s2 z_s3 z_s4
     clear c_c0 c_c1 c_c2 z_c0 z_c1 z_c2
     clear c_r0 c_r1 c_r2 c_r3 c_r4 z_r0 z_r1 z_r2 z_r3 z_r4
     have hB_s2 : Blk w2 (w.heap.size) #[.int .u64 F, .int .u64 N, .int .u64 1, .int .u64 1, .bool true] 92 := (((hB_s1).set 4 (.bool true)).set 3 (.int .u64 1)).kept u2 id
     have hB_r2 : Blk w2 (w.heap.size + 1 + 1) #[.int .u64 0, .int .u64 0, .int .u64 0, .int .u64 0, .bool false] 92 := (((hB_r1).setOther (by first | (simp; done) | (dsimp only; omega)) _).setOther (by first | (simp; done) | (dsimp only; omega)) _).kept u2 id
     have hU2 : Upd Nowhere w w2 := (((hU1).setNew (by first | exact Nat.le_refl _ | exact Nat.le_succ _ | (simp; done) | (dsimp only; omega)) _).setNew (by first | exact Nat.le_refl _ | exact Nat.le_succ _ | (simp; done) | (dsimp only; omega)) _).trans u2 (fun _ _ h => h)
     obtain ⟨c_r0, c_r1, c_r2, c_r3, c_r4, z_r0, z_r1, z_r2, z_r3, z_r4⟩ := cells5 (hB_r2)
     have l_s2 := hB_s2.lt
     have l_r2 := hB_r2.lt
     clear l_s1 l_c1 l_r1
     go_wp2_with fail
     exact bodyPost_ret (v := .agg #[.int .u64 F, .int .u64 y, .int .u64 1, .int .u64 1, .bool true]) (by simp [results, Tryz.results106, go_sem, c_r0, c_r1, c_r2, c_r3, c_r4]) rfl ⟨rfl, by repeat (first | exact hU2 | refine Upd.setNew ?_ (by first | exact Nat.le_refl _ | exact Nat.le_succ _ | exact Nat.le_succ_of_le (Nat.le_succ _) | (simp; done) | omega) _ | refine Upd.drewN ?_ _ | refine Upd.drew ?_ | refine Upd.alloc ?_ _)⟩
 · have t1 : decide ((more : Int) > 1) = false := decide_eq_false (by omega)
   have t2 : decide (1 < (more : Int)) = false := decide_eq_false (by omega)
   rw [if_neg (by omega)] at hA
   subst hA
   clear hN hK hL hI hn h1
   go_enter Tryz.func106, Tryz.ntmps106
   go_wp2_with fail
   refine ((H1 _).out).mono ?_
   rintro e w' ⟨rfl, rfl⟩
   go_wp2_with fail
   go_quiet ((go_at_call 124; exact quiet_same (H2 _).out))
   have hB_s1 : Blk ((((w.alloc (.cells #[.int .u64 F, .int .u64 N, .int .u64 1, .int .u64 L, .bool D] 92)).alloc (.cells #[.int .u64 T, .int .u64 I, .int .u64 X] 77)).alloc (.cells #[.int .u64 0, .int .u64 0, .int .u64 0, .int .u64 0, .bool false] 92)).drewN nq) (w.heap.size) #[.int .u64 F, .int .u64 N, .int .u64 1, .int .u64 L, .bool D] 92 := (((Blk.new _ _ _).alloc _).alloc _).drewN nq
   have hB_c1 : Blk ((((w.alloc (.cells #[.int .u64 F, .int .u64 N, .int .u64 1, .int .u64 L, .bool D] 92)).alloc (.cells #[.int .u64 T, .int .u64 I, .int .u64 X] 77)).alloc (.cells #[.int .u64 0, .int .u64 0, .int .u64 0, .int .u64 0, .bool false] 92)).drewN nq) (w.heap.size + 1) #[.int .u64 T, .int .u64 I, .int .u64 X] 77 := ((Blk.new2 _ _ _ _).alloc _).drewN nq
   have hB_r1 : Blk ((((w.alloc (.cells #[.int .u64 F, .int .u64 N, .int .u64 1, .int .u64 L, .bool D] 92)).alloc (.cells #[.int .u64 T, .int .u64 I, .int .u64 X] 77)).alloc (.cells #[.int .u64 0, .int .u64 0, .int .u64 0, .int .u64 0, .bool false] 92)).drewN nq) (w.heap.size + 1 + 1) #[.int .u64 0, .int .u64 0, .int .u64 0, .int .u64 0, .bool false] 92 := (Blk.new3 _ _ _ _ _).drewN nq
   have hU1 : Upd Nowhere w ((((w.alloc (.cells #[.int .u64 F, .int .u64 N, .int .u64 1, .int .u64 L, .bool D] 92)).alloc (.cells #[.int .u64 T, .int .u64 I, .int .u64 X] 77)).alloc (.cells #[.int .u64 0, .int .u64 0, .int .u64 0, .int .u64 0, .bool false] 92)).drewN nq) := ((((Upd.refl _ _).alloc _).alloc _).alloc _).drewN nq
   generalize (((w.alloc (.cells #[.int .u64 F, .int .u64 N, .int .u64 1, .int .u64 L, .bool D] 92)).alloc (.cells #[.int .u64 T, .int .u64 I, .int .u64 X] 77)).alloc (.cells #[.int .u64 0, .int .u64 0, .int .u64 0, .int .u64 0, .bool false] 92)).drewN nq = w1 at *
   obtain ⟨c_s0, c_s1, c_s2, c_s3, c_s4, z_s0, z_s1, z_s2, z_s3, z_s4⟩ := cells5 (hB_s1)
   obtain ⟨c_c0, c_c1, c_c2, z_c0, z_c1, z_c2⟩ := cells3 (hB_c1)
   obtain ⟨c_r0, c_r1, c_r2, c_r3, c_r4, z_r0, z_r1, z_r2, z_r3, z_r4⟩ := cells5 (hB_r1)
   have l_s1 := hB_s1.lt
   have l_c1 := hB_c1.lt
   have l_r1 := hB_r1.lt
   go_wp2_with fail
   refine ((H3 _).out).mono ?_
   rintro e w2 ⟨rfl, u2⟩
   clear c_s0 c_s1 c_s2 c_s3 c_s4 z_s0 z_s1 z_s2 z_s3 z_s4
   clear c_c0 c_c1 c_c2 z_c0 z_c1 z_c2
   clear c_r0 c_r1 c_r2 c_r3 c_r4 z_r0 z_r1 z_r2 z_r3 z_r4
   have hB_s2 : Blk w2 (w.heap.size) #[.int .u64 F, .int .u64 N, .int .u64 1, .int .u64 1, .bool true] 92 := (((hB_s1).set 4 (.bool true)).set 3 (.int .u64 1)).kept u2 id
   have hB_r2 : Blk w2 (w.heap.size + 1 + 1) #[.int .u64 0, .int .u64 0, .int .u64 0, .int .u64 0, .bool false] 92 := (((hB_r1).setOther (by first | (simp; done) | (dsimp only; omega)) _).setOther (by first | (simp; done) | (dsimp only; omega)) _).kept u2 id
   have hU2 : Upd Nowhere w w2 := (((hU1).setNew (by first | exact Nat.le_refl _ | exact Nat.le_succ _ | (simp; done) | (dsimp only; omega)) _).setNew (by first | exact Nat.le_refl _ | exact Nat.le_succ _ | (simp; done) | (dsimp only; omega)) _).trans u2 (fun _ _ h => h)
   obtain ⟨c_r0, c_r1, c_r2, c_r3, c_r4, z_r0, z_r1, z_r2, z_r3, z_r4⟩ := cells5 (hB_r2)
   have l_s2 := hB_s2.lt
   have l_r2 := hB_r2.lt
   clear l_s1 l_c1 l_r1
   go_wp2_with fail
   exact bodyPost_ret (v := .agg #[.int .u64 F, .int .u64 y, .int .u64 1, .int .u64 1, .bool true]) (by simp [results, Tryz.results106, go_sem, c_r0, c_r1, c_r2, c_r3, c_r4]) rfl ⟨rfl, by repeat (first | exact hU2 | refine Upd.setNew ?_ (by first | exact Nat.le_refl _ | exact Nat.le_succ _ | exact Nat.le_succ_of_le (Nat.le_succ _) | (simp; done) | omega) _ | refine Upd.drewN ?_ _ | refine Upd.drew ?_ | refine Upd.alloc ?_ _)⟩
end Go.Proofs.YtdddfmdcjjbegaaGreat.Codel

