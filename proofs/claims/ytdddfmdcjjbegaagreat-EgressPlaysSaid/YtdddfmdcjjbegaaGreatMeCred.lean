/- Credit, Credit2, one behind the other. -/
import Derived.Test.YtdddfmdcjjbegaaGreatProg
import Derived.Test.YtdddfmdcjjbegaaGreatMeA
import Derived.Lib.Hide
import Derived.LoopN
namespace Go.Proofs.YtdddfmdcjjbegaaGreat.Credit
open Go.RowKit Go.Proofs BigFrame
set_option maxHeartbeats 1000000
set_option maxRecDepth 1000000
abbrev TC : TypeId := 95
/-- A class's credit, as a value. -/
abbrev VC (i s h v : Int) : Value := .agg #[.int .i64 i, .int .i64 s, .int .i64 h, .int .i64 v]
def okc (i s h v : Int) : Prop := (1 ≤ i ∧ i ≤ 1048576) ∧ (1 ≤ s ∧ s ≤ 1048576) ∧ (1 ≤ h ∧ h ≤ 1048576) ∧ -1099511627776 ≤ v ∧ v ≤ h
abbrev TA : TypeId := 210
theorem check_ok {i s h v : Int} (w : World) (H : okc i s h v) :
 Calls Tryz.prog 66 #[VC i s h v] w fun e w' => e = .returned (.int .i64 0) ∧ Upd Nowhere w w' := by
 obtain ⟨⟨a1, a2⟩, ⟨a3, a4⟩, ⟨a5, a6⟩, a7, a8⟩ := H
 have d1 : decide (i < 1) = false := by simp; omega
 have d2 : decide (1048576 < i) = false := by simp; omega
 have d3 : decide (s < 1) = false := by simp; omega
 have d4 : decide (1048576 < s) = false := by simp; omega
 have d5 : decide (h < 1) = false := by simp; omega
 have d6 : decide (1048576 < h) = false := by simp; omega
 have d7 : decide (v < -1099511627776) = false := by simp; omega
 have d8 : decide (h < v) = false := by simp; omega
 have q0 : ∀ u, (Instr.index TA (.agg #[.int .i64 i, .int .i64 s, .int .i64 h]) (.int .i64 0)).run Tryz.prog u = .ok (.int .i64 i) u := fun _ => by kernel_rfl
 have q1 : ∀ u, (Instr.index TA (.agg #[.int .i64 i, .int .i64 s, .int .i64 h]) (.int .i64 1)).run Tryz.prog u = .ok (.int .i64 s) u := fun _ => by kernel_rfl
 have q2 : ∀ u, (Instr.index TA (.agg #[.int .i64 i, .int .i64 s, .int .i64 h]) (.int .i64 2)).run Tryz.prog u = .ok (.int .i64 h) u := fun _ => by kernel_rfl
 clear a1 a2 a3 a4 a5 a6 a7 a8
 go_enter Tryz.func66, Tryz.ntmps66
 go_wp2_with fail
 refine wp_loop_rounds 4 ?_
 rw [rounds_succ]
 go_wp2_with fail
 rw [rounds_succ]
 go_wp2_with fail
 rw [rounds_succ]
 go_wp2_with fail
 rw [rounds_succ]
 go_wp2_with fail
 go_ret
 exact ⟨rfl, (Upd.refl _ _).alloc _⟩
theorem check_i0 {i s h v : Int} (w : World) (H : i < 1) :
 Calls Tryz.prog 66 #[VC i s h v] w fun e w' => e = .returned (.int .i64 6) ∧ Upd Nowhere w w' := by
 have e1 : decide (i < 1) = true := by simp; omega
 have q0 : ∀ u, (Instr.index TA (.agg #[.int .i64 i, .int .i64 s, .int .i64 h]) (.int .i64 0)).run Tryz.prog u = .ok (.int .i64 i) u := fun _ => by kernel_rfl
 have q1 : ∀ u, (Instr.index TA (.agg #[.int .i64 i, .int .i64 s, .int .i64 h]) (.int .i64 1)).run Tryz.prog u = .ok (.int .i64 s) u := fun _ => by kernel_rfl
 have q2 : ∀ u, (Instr.index TA (.agg #[.int .i64 i, .int .i64 s, .int .i64 h]) (.int .i64 2)).run Tryz.prog u = .ok (.int .i64 h) u := fun _ => by kernel_rfl
 clear H
 go_enter Tryz.func66, Tryz.ntmps66
 go_wp2_with fail
 refine wp_loop_rounds 4 ?_
 rw [rounds_succ]
 go_wp2_with fail
 go_ret
 exact ⟨rfl, (Upd.refl _ _).alloc _⟩
theorem check_i1 {i s h v : Int} (w : World) (H : 1048576 < i) :
 Calls Tryz.prog 66 #[VC i s h v] w fun e w' => e = .returned (.int .i64 6) ∧ Upd Nowhere w w' := by
 have e1 : decide (i < 1) = false := by simp; omega
 have e2 : decide (1048576 < i) = true := by simp; omega
 have q0 : ∀ u, (Instr.index TA (.agg #[.int .i64 i, .int .i64 s, .int .i64 h]) (.int .i64 0)).run Tryz.prog u = .ok (.int .i64 i) u := fun _ => by kernel_rfl
 have q1 : ∀ u, (Instr.index TA (.agg #[.int .i64 i, .int .i64 s, .int .i64 h]) (.int .i64 1)).run Tryz.prog u = .ok (.int .i64 s) u := fun _ => by kernel_rfl
 have q2 : ∀ u, (Instr.index TA (.agg #[.int .i64 i, .int .i64 s, .int .i64 h]) (.int .i64 2)).run Tryz.prog u = .ok (.int .i64 h) u := fun _ => by kernel_rfl
 clear H
 go_enter Tryz.func66, Tryz.ntmps66
 go_wp2_with fail
 refine wp_loop_rounds 4 ?_
 rw [rounds_succ]
 go_wp2_with fail
 go_ret
 exact ⟨rfl, (Upd.refl _ _).alloc _⟩
theorem check_s0 {i s h v : Int} (w : World) (g0 : 1 ≤ i ∧ i ≤ 1048576) (H : s < 1) :
 Calls Tryz.prog 66 #[VC i s h v] w fun e w' => e = .returned (.int .i64 6) ∧ Upd Nowhere w w' := by
 have d1 : decide (i < 1) = false := by simp; omega
 have d2 : decide (1048576 < i) = false := by simp; omega
 have e1 : decide (s < 1) = true := by simp; omega
 have q0 : ∀ u, (Instr.index TA (.agg #[.int .i64 i, .int .i64 s, .int .i64 h]) (.int .i64 0)).run Tryz.prog u = .ok (.int .i64 i) u := fun _ => by kernel_rfl
 have q1 : ∀ u, (Instr.index TA (.agg #[.int .i64 i, .int .i64 s, .int .i64 h]) (.int .i64 1)).run Tryz.prog u = .ok (.int .i64 s) u := fun _ => by kernel_rfl
 have q2 : ∀ u, (Instr.index TA (.agg #[.int .i64 i, .int .i64 s, .int .i64 h]) (.int .i64 2)).run Tryz.prog u = .ok (.int .i64 h) u := fun _ => by kernel_rfl
 clear H g0
 go_enter Tryz.func66, Tryz.ntmps66
 go_wp2_with fail
 refine wp_loop_rounds 4 ?_
 rw [rounds_succ]
 go_wp2_with fail
 rw [rounds_succ]
 go_wp2_with fail
 go_ret
 exact ⟨rfl, (Upd.refl _ _).alloc _⟩
theorem check_s1 {i s h v : Int} (w : World) (g0 : 1 ≤ i ∧ i ≤ 1048576) (H : 1048576 < s) :
 Calls Tryz.prog 66 #[VC i s h v] w fun e w' => e = .returned (.int .i64 6) ∧ Upd Nowhere w w' := by
 have d1 : decide (i < 1) = false := by simp; omega
 have d2 : decide (1048576 < i) = false := by simp; omega
 have e1 : decide (s < 1) = false := by simp; omega
 have e2 : decide (1048576 < s) = true := by simp; omega
 have q0 : ∀ u, (Instr.index TA (.agg #[.int .i64 i, .int .i64 s, .int .i64 h]) (.int .i64 0)).run Tryz.prog u = .ok (.int .i64 i) u := fun _ => by kernel_rfl
 have q1 : ∀ u, (Instr.index TA (.agg #[.int .i64 i, .int .i64 s, .int .i64 h]) (.int .i64 1)).run Tryz.prog u = .ok (.int .i64 s) u := fun _ => by kernel_rfl
 have q2 : ∀ u, (Instr.index TA (.agg #[.int .i64 i, .int .i64 s, .int .i64 h]) (.int .i64 2)).run Tryz.prog u = .ok (.int .i64 h) u := fun _ => by kernel_rfl
 clear H g0
 go_enter Tryz.func66, Tryz.ntmps66
 go_wp2_with fail
 refine wp_loop_rounds 4 ?_
 rw [rounds_succ]
 go_wp2_with fail
 rw [rounds_succ]
 go_wp2_with fail
 go_ret
 exact ⟨rfl, (Upd.refl _ _).alloc _⟩
theorem check_h0 {i s h v : Int} (w : World) (g0 : 1 ≤ i ∧ i ≤ 1048576) (g1 : 1 ≤ s ∧ s ≤ 1048576) (H : h < 1) :
 Calls Tryz.prog 66 #[VC i s h v] w fun e w' => e = .returned (.int .i64 6) ∧ Upd Nowhere w w' := by
 have d1 : decide (i < 1) = false := by simp; omega
 have d2 : decide (1048576 < i) = false := by simp; omega
 have d3 : decide (s < 1) = false := by simp; omega
 have d4 : decide (1048576 < s) = false := by simp; omega
 have e1 : decide (h < 1) = true := by simp; omega
 have q0 : ∀ u, (Instr.index TA (.agg #[.int .i64 i, .int .i64 s, .int .i64 h]) (.int .i64 0)).run Tryz.prog u = .ok (.int .i64 i) u := fun _ => by kernel_rfl
 have q1 : ∀ u, (Instr.index TA (.agg #[.int .i64 i, .int .i64 s, .int .i64 h]) (.int .i64 1)).run Tryz.prog u = .ok (.int .i64 s) u := fun _ => by kernel_rfl
 have q2 : ∀ u, (Instr.index TA (.agg #[.int .i64 i, .int .i64 s, .int .i64 h]) (.int .i64 2)).run Tryz.prog u = .ok (.int .i64 h) u := fun _ => by kernel_rfl
 clear H g0 g1
 go_enter Tryz.func66, Tryz.ntmps66
 go_wp2_with fail
 refine wp_loop_rounds 4 ?_
 rw [rounds_succ]
 go_wp2_with fail
 rw [rounds_succ]
 go_wp2_with fail
 rw [rounds_succ]
 go_wp2_with fail
 go_ret
 exact ⟨rfl, (Upd.refl _ _).alloc _⟩
theorem check_h1 {i s h v : Int} (w : World) (g0 : 1 ≤ i ∧ i ≤ 1048576) (g1 : 1 ≤ s ∧ s ≤ 1048576) (H : 1048576 < h) :
 Calls Tryz.prog 66 #[VC i s h v] w fun e w' => e = .returned (.int .i64 6) ∧ Upd Nowhere w w' := by
 have d1 : decide (i < 1) = false := by simp; omega
 have d2 : decide (1048576 < i) = false := by simp; omega
 have d3 : decide (s < 1) = false := by simp; omega
 have d4 : decide (1048576 < s) = false := by simp; omega
 have e1 : decide (h < 1) = false := by simp; omega
 have e2 : decide (1048576 < h) = true := by simp; omega
 have q0 : ∀ u, (Instr.index TA (.agg #[.int .i64 i, .int .i64 s, .int .i64 h]) (.int .i64 0)).run Tryz.prog u = .ok (.int .i64 i) u := fun _ => by kernel_rfl
 have q1 : ∀ u, (Instr.index TA (.agg #[.int .i64 i, .int .i64 s, .int .i64 h]) (.int .i64 1)).run Tryz.prog u = .ok (.int .i64 s) u := fun _ => by kernel_rfl
 have q2 : ∀ u, (Instr.index TA (.agg #[.int .i64 i, .int .i64 s, .int .i64 h]) (.int .i64 2)).run Tryz.prog u = .ok (.int .i64 h) u := fun _ => by kernel_rfl
 clear H g0 g1
 go_enter Tryz.func66, Tryz.ntmps66
 go_wp2_with fail
 refine wp_loop_rounds 4 ?_
 rw [rounds_succ]
 go_wp2_with fail
 rw [rounds_succ]
 go_wp2_with fail
 rw [rounds_succ]
 go_wp2_with fail
 go_ret
 exact ⟨rfl, (Upd.refl _ _).alloc _⟩
theorem check_v0 {i s h v : Int} (w : World) (g0 : 1 ≤ i ∧ i ≤ 1048576) (g1 : 1 ≤ s ∧ s ≤ 1048576) (g2 : 1 ≤ h ∧ h ≤ 1048576) (H : v < -1099511627776) :
 Calls Tryz.prog 66 #[VC i s h v] w fun e w' => e = .returned (.int .i64 6) ∧ Upd Nowhere w w' := by
 have d1 : decide (i < 1) = false := by simp; omega
 have d2 : decide (1048576 < i) = false := by simp; omega
 have d3 : decide (s < 1) = false := by simp; omega
 have d4 : decide (1048576 < s) = false := by simp; omega
 have d5 : decide (h < 1) = false := by simp; omega
 have d6 : decide (1048576 < h) = false := by simp; omega
 have d7 : decide (v < -1099511627776) = true := by simp; omega
 have q0 : ∀ u, (Instr.index TA (.agg #[.int .i64 i, .int .i64 s, .int .i64 h]) (.int .i64 0)).run Tryz.prog u = .ok (.int .i64 i) u := fun _ => by kernel_rfl
 have q1 : ∀ u, (Instr.index TA (.agg #[.int .i64 i, .int .i64 s, .int .i64 h]) (.int .i64 1)).run Tryz.prog u = .ok (.int .i64 s) u := fun _ => by kernel_rfl
 have q2 : ∀ u, (Instr.index TA (.agg #[.int .i64 i, .int .i64 s, .int .i64 h]) (.int .i64 2)).run Tryz.prog u = .ok (.int .i64 h) u := fun _ => by kernel_rfl
 clear H g0 g1 g2
 go_enter Tryz.func66, Tryz.ntmps66
 go_wp2_with fail
 refine wp_loop_rounds 4 ?_
 rw [rounds_succ]
 go_wp2_with fail
 rw [rounds_succ]
 go_wp2_with fail
 rw [rounds_succ]
 go_wp2_with fail
 rw [rounds_succ]
 go_wp2_with fail
 go_ret
 exact ⟨rfl, (Upd.refl _ _).alloc _⟩
theorem check_v1 {i s h v : Int} (w : World) (g0 : 1 ≤ i ∧ i ≤ 1048576) (g1 : 1 ≤ s ∧ s ≤ 1048576) (g2 : 1 ≤ h ∧ h ≤ 1048576) (H : ¬ v < -1099511627776 ∧ h < v) :
 Calls Tryz.prog 66 #[VC i s h v] w fun e w' => e = .returned (.int .i64 6) ∧ Upd Nowhere w w' := by
 have d1 : decide (i < 1) = false := by simp; omega
 have d2 : decide (1048576 < i) = false := by simp; omega
 have d3 : decide (s < 1) = false := by simp; omega
 have d4 : decide (1048576 < s) = false := by simp; omega
 have d5 : decide (h < 1) = false := by simp; omega
 have d6 : decide (1048576 < h) = false := by simp; omega
 have d7 : decide (v < -1099511627776) = false := by simp; omega
 have d8 : decide (h < v) = true := by simp; omega
 have q0 : ∀ u, (Instr.index TA (.agg #[.int .i64 i, .int .i64 s, .int .i64 h]) (.int .i64 0)).run Tryz.prog u = .ok (.int .i64 i) u := fun _ => by kernel_rfl
 have q1 : ∀ u, (Instr.index TA (.agg #[.int .i64 i, .int .i64 s, .int .i64 h]) (.int .i64 1)).run Tryz.prog u = .ok (.int .i64 s) u := fun _ => by kernel_rfl
 have q2 : ∀ u, (Instr.index TA (.agg #[.int .i64 i, .int .i64 s, .int .i64 h]) (.int .i64 2)).run Tryz.prog u = .ok (.int .i64 h) u := fun _ => by kernel_rfl
 clear H g0 g1 g2
 go_enter Tryz.func66, Tryz.ntmps66
 go_wp2_with fail
 refine wp_loop_rounds 4 ?_
 rw [rounds_succ]
 go_wp2_with fail
 rw [rounds_succ]
 go_wp2_with fail
 rw [rounds_succ]
 go_wp2_with fail
 rw [rounds_succ]
 go_wp2_with fail
 go_ret
 exact ⟨rfl, (Upd.refl _ _).alloc _⟩
theorem check_no {i s h v : Int} (w : World) (H : ¬ okc i s h v) :
 Calls Tryz.prog 66 #[VC i s h v] w fun e w' => e = .returned (.int .i64 6) ∧ Upd Nowhere w w' := by
 by_cases h1 : i < 1
 · exact check_i0 w h1
 by_cases h2 : 1048576 < i
 · exact check_i1 w h2
 by_cases h3 : s < 1
 · exact check_s0 w (by omega) h3
 by_cases h4 : 1048576 < s
 · exact check_s1 w (by omega) h4
 by_cases h5 : h < 1
 · exact check_h0 w (by omega) (by omega) h5
 by_cases h6 : 1048576 < h
 · exact check_h1 w (by omega) (by omega) h6
 by_cases h7 : v < -1099511627776
 · exact check_v0 w (by omega) (by omega) (by omega) h7
 · exact check_v1 w (by omega) (by omega) (by omega) ⟨h7, by unfold okc at H; omega⟩
end Go.Proofs.YtdddfmdcjjbegaaGreat.Credit
namespace Go.Proofs.YtdddfmdcjjbegaaGreat.Credit
open Go.RowKit Go.Proofs BigFrame
set_option maxHeartbeats 1000000
set_option maxRecDepth 1000000
theorem may_any {i s h v : Int} (w : World) (H : okc i s h v) :
 Calls Tryz.prog 71 #[VC i s h v] w fun e w' => e = .returned (.bool (decide (0 ≤ v))) ∧ Upd Nowhere w w' := by
 have HC := Lib.hid (check_ok (w.alloc (.cells #[.int .i64 i, .int .i64 s, .int .i64 h, .int .i64 v] TC)) H)
 have hU : Upd Nowhere w (w.alloc (.cells #[.int .i64 i, .int .i64 s, .int .i64 h, .int .i64 v] TC)) := (Upd.refl _ _).alloc _
 have hB : Blk (w.alloc (.cells #[.int .i64 i, .int .i64 s, .int .i64 h, .int .i64 v] TC)) w.heap.size #[.int .i64 i, .int .i64 s, .int .i64 h, .int .i64 v] TC := Blk.new _ _ _
 obtain ⟨B, hb⟩ : ∃ B, decide (0 ≤ v) = B := ⟨_, rfl⟩
 have hb2 : decide (v ≥ 0) = B := hb
 rw [hb]
 clear H
 go_enter Tryz.func71, Tryz.ntmps71
 go_wp2_with fail
 refine (HC.out).mono ?_
 rintro e w1 ⟨rfl, hu⟩
 obtain ⟨c0, c1, c2, c3, -⟩ := cells4 (hB.kept hu id)
 go_wp2_with fail
 go_ret
 exact ⟨rfl, hU.trans hu (fun _ _ h => h)⟩
theorem new_ok {i s h : Int} (w : World) (H : okc i s h 0) :
 Calls Tryz.prog 35 #[.int .i64 i, .int .i64 s, .int .i64 h] w fun e w' => e = .returned (.tuple #[VC i s h 0, .int .i64 0]) ∧ Upd Nowhere w w' := by
 have hU : Upd Nowhere w ((w.alloc (.cells #[.int .i64 0, .int .i64 0, .int .i64 0, .int .i64 0] TC)).alloc (.cells #[.int .i64 i, .int .i64 s, .int .i64 h, .int .i64 0] TC)) := ((Upd.refl _ _).alloc _).alloc _
 have hB : Blk ((w.alloc (.cells #[.int .i64 0, .int .i64 0, .int .i64 0, .int .i64 0] TC)).alloc (.cells #[.int .i64 i, .int .i64 s, .int .i64 h, .int .i64 0] TC)) w.heap.size #[.int .i64 0, .int .i64 0, .int .i64 0, .int .i64 0] TC := (Blk.new _ _ _).alloc _
 have hN : Blk ((w.alloc (.cells #[.int .i64 0, .int .i64 0, .int .i64 0, .int .i64 0] TC)).alloc (.cells #[.int .i64 i, .int .i64 s, .int .i64 h, .int .i64 0] TC)) (w.heap.size + 1) #[.int .i64 i, .int .i64 s, .int .i64 h, .int .i64 0] TC := Blk.new2 _ _ _ _
 have HC := Lib.hid (check_ok ((w.alloc (.cells #[.int .i64 0, .int .i64 0, .int .i64 0, .int .i64 0] TC)).alloc (.cells #[.int .i64 i, .int .i64 s, .int .i64 h, .int .i64 0] TC)) H)
 clear H
 go_enter Tryz.func35, Tryz.ntmps35
 go_wp2_with fail
 refine (HC.out).mono ?_
 rintro e w1 ⟨rfl, hu⟩
 obtain ⟨c0, c1, c2, c3, z0, z1, z2, z3⟩ := cells4 (hB.kept hu id)
 obtain ⟨k0, k1, k2, k3, -⟩ := cells4 (hN.kept hu id)
 have hU1 := hU.trans hu (fun _ _ h => h)
 clear hB hN hU hu HC
 go_wp2_with fail
 exact bodyPost_ret (v := .tuple #[VC i s h 0, .int .i64 0]) (by simp [results, Tryz.results35, go_sem, c0, c1, c2, c3]) rfl ⟨rfl, (by repeat (first | with_reducible exact hU1 | with_reducible refine Upd.drewN ?_ _ | with_reducible refine Upd.drew ?_ | with_reducible refine Upd.setNew ?_ (Nat.le_refl _) _))⟩
theorem new_no {i s h : Int} (w : World) (H : ¬ okc i s h 0) :
 Calls Tryz.prog 35 #[.int .i64 i, .int .i64 s, .int .i64 h] w fun e w' => e = .returned (.tuple #[VC 0 0 0 0, .int .i64 6]) ∧ Upd Nowhere w w' := by
 have hU : Upd Nowhere w ((w.alloc (.cells #[.int .i64 0, .int .i64 0, .int .i64 0, .int .i64 0] TC)).alloc (.cells #[.int .i64 i, .int .i64 s, .int .i64 h, .int .i64 0] TC)) := ((Upd.refl _ _).alloc _).alloc _
 have hB : Blk ((w.alloc (.cells #[.int .i64 0, .int .i64 0, .int .i64 0, .int .i64 0] TC)).alloc (.cells #[.int .i64 i, .int .i64 s, .int .i64 h, .int .i64 0] TC)) w.heap.size #[.int .i64 0, .int .i64 0, .int .i64 0, .int .i64 0] TC := (Blk.new _ _ _).alloc _
 have hN : Blk ((w.alloc (.cells #[.int .i64 0, .int .i64 0, .int .i64 0, .int .i64 0] TC)).alloc (.cells #[.int .i64 i, .int .i64 s, .int .i64 h, .int .i64 0] TC)) (w.heap.size + 1) #[.int .i64 i, .int .i64 s, .int .i64 h, .int .i64 0] TC := Blk.new2 _ _ _ _
 have HC := Lib.hid (check_no ((w.alloc (.cells #[.int .i64 0, .int .i64 0, .int .i64 0, .int .i64 0] TC)).alloc (.cells #[.int .i64 i, .int .i64 s, .int .i64 h, .int .i64 0] TC)) H)
 clear H
 go_enter Tryz.func35, Tryz.ntmps35
 go_wp2_with fail
 refine (HC.out).mono ?_
 rintro e w1 ⟨rfl, hu⟩
 obtain ⟨c0, c1, c2, c3, z0, z1, z2, z3⟩ := cells4 (hB.kept hu id)
 obtain ⟨k0, k1, k2, k3, -⟩ := cells4 (hN.kept hu id)
 have hU1 := hU.trans hu (fun _ _ h => h)
 clear hB hN hU hu HC
 go_wp2_with fail
 exact bodyPost_ret (v := .tuple #[VC 0 0 0 0, .int .i64 6]) (by simp [results, Tryz.results35, go_sem, c0, c1, c2, c3]) rfl ⟨rfl, (by repeat (first | with_reducible exact hU1 | with_reducible refine Upd.drewN ?_ _ | with_reducible refine Upd.drew ?_ | with_reducible refine Upd.setNew ?_ (Nat.le_refl _) _))⟩
/-- What a class has once it earned: no more than the bound. -/
def ern (i v bd : Int) (t : Nat) : Int := if (bd - v + i - 1).tdiv i ≤ (t : Int) then bd else v + i * t
theorem ern_mid {i v bd : Int} {t : Nat} (hi : 1 ≤ i) (h : ¬ (bd - v + i - 1).tdiv i ≤ (t : Int)) (hv : v ≤ bd) : 0 ≤ i * t ∧ v + i * t < bd := by
 have e : (bd - v + i - 1).tdiv i = (bd - v + i - 1) / i := Int.tdiv_eq_ediv_of_nonneg (by omega)
 rw [e] at h
 have h1 : (t : Int) + 1 ≤ (bd - v + i - 1) / i := by omega
 have h2 := Int.mul_le_of_le_ediv (by omega) h1
 have e3 : ((t : Int) + 1) * i = i * t + i := by rw [Int.add_mul, Int.one_mul, Int.mul_comm]
 rw [e3] at h2
 have h4 : 0 ≤ i * (t : Int) := Int.mul_nonneg (by omega) (by omega)
 omega
theorem earns_any {i s h v bd : Int} {t : Nat} (w : World) (H : okc i s h v) (hb : v ≤ bd) (hb2 : bd ≤ 1048576) (ht : t < 18446744073709551616) :
 Calls Tryz.prog 79 #[VC i s h v, .int .u64 t, .int .i64 bd] w fun e w' => e = .returned (VC i s h (ern i v bd t)) ∧ Upd Nowhere w w' := by
 have hU : Upd Nowhere w ((w.alloc (.cells #[.int .i64 i, .int .i64 s, .int .i64 h, .int .i64 v] TC)).alloc (.cells #[.int .i64 0, .int .i64 0, .int .i64 0, .int .i64 0] TC)) := ((Upd.refl _ _).alloc _).alloc _
 have hB : Blk ((w.alloc (.cells #[.int .i64 i, .int .i64 s, .int .i64 h, .int .i64 v] TC)).alloc (.cells #[.int .i64 0, .int .i64 0, .int .i64 0, .int .i64 0] TC)) w.heap.size #[.int .i64 i, .int .i64 s, .int .i64 h, .int .i64 v] TC := (Blk.new _ _ _).alloc _
 have hN : Blk ((w.alloc (.cells #[.int .i64 i, .int .i64 s, .int .i64 h, .int .i64 v] TC)).alloc (.cells #[.int .i64 0, .int .i64 0, .int .i64 0, .int .i64 0] TC)) (w.heap.size + 1) #[.int .i64 0, .int .i64 0, .int .i64 0, .int .i64 0] TC := Blk.new2 _ _ _ _
 obtain ⟨⟨a1, a2⟩, ⟨a3, a4⟩, ⟨a5, a6⟩, a7, a8⟩ := H
 obtain ⟨A, hA⟩ : ∃ A : Int, bd - v = A := ⟨_, rfl⟩
 obtain ⟨D, hD⟩ : ∃ D : Int, A + i - 1 = D := ⟨_, rfl⟩
 have hm := ern_mid (t := t) a1 (bd := bd) (v := v)
 have hE : ern i v bd t = if (bd - v + i - 1).tdiv i ≤ (t : Int) then bd else v + i * t := rfl
 rw [hA, hD] at hm hE
 obtain ⟨Q, hQ⟩ : ∃ Q : Int, D.tdiv i = Q := ⟨_, rfl⟩
 have hQ2 : D.tdiv i = D / i := Int.tdiv_eq_ediv_of_nonneg (by omega)
 have hQ3 : 0 ≤ Q := by rw [← hQ, hQ2]; exact Int.ediv_nonneg (by omega) (by omega)
 have hQ4 : Q ≤ D := by rw [← hQ, hQ2]; exact Int.ediv_le_self _ (by omega)
 rw [hQ] at hm hE
 have hi0 : ¬ i = 0 := by omega
 obtain ⟨P, hP⟩ : ∃ P : Int, i * (t : Int) = P := ⟨_, rfl⟩
 rw [hP] at hm hE
 clear hQ2
 by_cases hq : Q ≤ (t : Int)
 · rw [if_pos hq] at hE
   rw [hE]
   have dq : decide (Q ≤ (t : Int)) = true := decide_eq_true hq
   clear hm hE hP
   go_enter Tryz.func79, Tryz.ntmps79
   go_wp2_with fail
   exact bodyPost_ret (v := VC i s h bd) (by simp [results, Tryz.results79, go_sem]) rfl ⟨rfl, ((Upd.refl _ _).alloc _).alloc _⟩
 · rw [if_neg hq] at hE
   rw [hE]
   obtain ⟨m1, m2⟩ := hm hq hb
   have dq : decide (Q ≤ (t : Int)) = false := decide_eq_false hq
   obtain ⟨R, hR⟩ : ∃ R : Int, v + P = R := ⟨_, rfl⟩
   rw [hR]
   clear hm hE
   go_enter Tryz.func79, Tryz.ntmps79
   go_wp2_with fail
   exact bodyPost_ret (v := VC i s h R) (by simp [results, Tryz.results79, go_sem]) rfl ⟨rfl, ((Upd.refl _ _).alloc _).alloc _⟩
/-- What a class has when so many ticks are over. -/
def tck (i h v : Int) (t : Nat) (waits : Bool) : Int := if waits then ern i v h t else if v < 0 then ern i v 0 t else 0
theorem ern_ok {i s h v bd : Int} {t : Nat} (H : okc i s h v) (hb : v ≤ bd) (hbh : bd ≤ h) : okc i s h (ern i v bd t) := by
 obtain ⟨g1, g2, g3, g4, g5⟩ := H
 unfold ern
 by_cases hq : (bd - v + i - 1).tdiv i ≤ (t : Int)
 · rw [if_pos hq]; exact ⟨g1, g2, g3, by omega, hbh⟩
 · rw [if_neg hq]
   obtain ⟨m1, m2⟩ := ern_mid g1.1 hq hb
   exact ⟨g1, g2, g3, by omega, by omega⟩
theorem tck_ok {i s h v : Int} {t : Nat} {wt : Bool} (H : okc i s h v) : okc i s h (tck i h v t wt) := by
 cases wt with
 | true => exact ern_ok H H.2.2.2.2 (Int.le_refl _)
 | false =>
   by_cases hv : v < 0
   · have e : tck i h v t false = ern i v 0 t := by unfold tck; simp [hv]
     rw [e]
     exact ern_ok H (by omega) (by have := H.2.2.1; omega)
   · have e : tck i h v t false = 0 := by unfold tck; simp [hv]
     rw [e]
     obtain ⟨g1, g2, g3, g4, g5⟩ := H
     exact ⟨g1, g2, g3, by omega, by omega⟩
theorem tick_any {i s h v : Int} {t : Nat} {wt : Bool} (w : World) (H : okc i s h v) (ht : t < 18446744073709551616) :
 Calls Tryz.prog 47 #[VC i s h v, .int .u64 t, .bool wt] w fun e w' => e = .returned (VC i s h (tck i h v t wt)) ∧ Upd Nowhere w w' := by
 have hU : Upd Nowhere w ((w.alloc (.cells #[.int .i64 i, .int .i64 s, .int .i64 h, .int .i64 v] TC)).alloc (.cells #[.int .i64 0, .int .i64 0, .int .i64 0, .int .i64 0] TC)) := ((Upd.refl _ _).alloc _).alloc _
 have hB : Blk ((w.alloc (.cells #[.int .i64 i, .int .i64 s, .int .i64 h, .int .i64 v] TC)).alloc (.cells #[.int .i64 0, .int .i64 0, .int .i64 0, .int .i64 0] TC)) w.heap.size #[.int .i64 i, .int .i64 s, .int .i64 h, .int .i64 v] TC := (Blk.new _ _ _).alloc _
 have hN : Blk ((w.alloc (.cells #[.int .i64 i, .int .i64 s, .int .i64 h, .int .i64 v] TC)).alloc (.cells #[.int .i64 0, .int .i64 0, .int .i64 0, .int .i64 0] TC)) (w.heap.size + 1) #[.int .i64 0, .int .i64 0, .int .i64 0, .int .i64 0] TC := Blk.new2 _ _ _ _
 have HC := Lib.hid (check_ok ((w.alloc (.cells #[.int .i64 i, .int .i64 s, .int .i64 h, .int .i64 v] TC)).alloc (.cells #[.int .i64 0, .int .i64 0, .int .i64 0, .int .i64 0] TC)) H)
 cases wt with
 | true =>
   have HE := fun u => Lib.hid (earns_any (bd := h) (t := t) u H H.2.2.2.2 H.2.2.1.2 ht)
   have e : tck i h v t true = ern i v h t := rfl
   rw [e]
   obtain ⟨R, hR⟩ : ∃ R, ern i v h t = R := ⟨_, rfl⟩
   rw [hR] at HE ⊢
   clear H e hR
   go_enter Tryz.func47, Tryz.ntmps47
   go_wp2_with fail
   refine (HC.out).mono ?_
   rintro e w1 ⟨rfl, hu⟩
   have hB1 := hB.kept hu id
   have hN1 := hN.kept hu id
   have hU1 := hU.trans hu (fun _ _ h => h)
   obtain ⟨c0, c1, c2, c3, -⟩ := cells4 hB1
   clear hB hN hU hu HC
   go_wp2_with fail
   refine ((HE _).out).mono ?_
   rintro e w2 ⟨rfl, hu⟩
   have hN2 := hN1.kept hu id
   have hU2 := hU1.trans hu (fun _ _ h => h)
   obtain ⟨k0, k1, k2, k3, z0, z1, z2, z3⟩ := cells4 hN2
   clear hB1 hN1 hU1 hu HE c0 c1 c2 c3
   go_wp2_with fail
   exact bodyPost_ret (v := VC i s h R) (by simp [results, Tryz.results47, go_sem, k0, k1, k2, k3]) rfl ⟨rfl, (by repeat (first | with_reducible exact hU2 | with_reducible refine Upd.drewN ?_ _ | with_reducible refine Upd.drew ?_ | with_reducible refine Upd.setNew ?_ (Nat.le_succ _) _))⟩
 | false =>
   by_cases hv : v < 0
   · have HE := fun u => Lib.hid (earns_any (bd := 0) (t := t) u H (by omega) (by omega) ht)
     have e : tck i h v t false = ern i v 0 t := by unfold tck; simp [hv]
     rw [e]
     obtain ⟨R, hR⟩ : ∃ R, ern i v 0 t = R := ⟨_, rfl⟩
     rw [hR] at HE ⊢
     have dv : decide (v < 0) = true := decide_eq_true hv
     clear H e hR
     go_enter Tryz.func47, Tryz.ntmps47
     go_wp2_with fail
     refine (HC.out).mono ?_
     rintro e w1 ⟨rfl, hu⟩
     have hB1 := hB.kept hu id
     have hN1 := hN.kept hu id
     have hU1 := hU.trans hu (fun _ _ h => h)
     obtain ⟨c0, c1, c2, c3, -⟩ := cells4 hB1
     clear hB hN hU hu HC
     go_wp2_with fail
     refine ((HE _).out).mono ?_
     rintro e w2 ⟨rfl, hu⟩
     have hN2 := hN1.kept hu id
     have hU2 := hU1.trans hu (fun _ _ h => h)
     obtain ⟨k0, k1, k2, k3, z0, z1, z2, z3⟩ := cells4 hN2
     clear hB1 hN1 hU1 hu HE c0 c1 c2 c3
     go_wp2_with fail
     exact bodyPost_ret (v := VC i s h R) (by simp [results, Tryz.results47, go_sem, k0, k1, k2, k3]) rfl ⟨rfl, (by repeat (first | with_reducible exact hU2 | with_reducible refine Upd.drewN ?_ _ | with_reducible refine Upd.drew ?_ | with_reducible refine Upd.setNew ?_ (Nat.le_succ _) _))⟩
   · have e : tck i h v t false = 0 := by unfold tck; simp [hv]
     rw [e]
     have dv : decide (v < 0) = false := decide_eq_false hv
     clear H e
     go_enter Tryz.func47, Tryz.ntmps47
     go_wp2_with fail
     refine (HC.out).mono ?_
     rintro e w1 ⟨rfl, hu⟩
     have hB1 := hB.kept hu id
     have hN1 := hN.kept hu id
     have hU1 := hU.trans hu (fun _ _ h => h)
     obtain ⟨c0, c1, c2, c3, y0, y1, y2, y3⟩ := cells4 hB1
     obtain ⟨k0, k1, k2, k3, z0, z1, z2, z3⟩ := cells4 hN1
     clear hB hN hU hu HC
     go_wp2_with fail
     exact bodyPost_ret (v := VC i s h 0) (by simp [results, Tryz.results47, go_sem, k0, k1, k2, k3]) rfl ⟨rfl, (by repeat (first | with_reducible exact hU1 | with_reducible refine Upd.drewN ?_ _ | with_reducible refine Upd.drew ?_ | with_reducible refine Upd.setNew ?_ (Nat.le_succ _) _ | with_reducible refine Upd.setNew ?_ (Nat.le_refl _) _))⟩
theorem cost_le {s : Int} {n : Nat} (h1 : 1 ≤ s) (h2 : s ≤ 1048576) (hn : n ≤ 65535) : 0 ≤ s * n ∧ s * n ≤ 68718428160 := by
 refine ⟨Int.mul_nonneg (by omega) (by omega), ?_⟩
 have : s * (n : Int) ≤ 1048576 * 65535 := Int.mul_le_mul h2 (by omega) (by omega) (by omega)
 omega
theorem sent_ok {i s h v : Int} {n : Nat} (H : okc i s h v) (hv : 0 ≤ v) (hn : n ≤ 65535) : okc i s h (v - s * n) := by
 obtain ⟨g1, g2, g3, g4, g5⟩ := H
 obtain ⟨h1, h2⟩ := cost_le g2.1 g2.2 hn
 exact ⟨g1, g2, g3, by omega, by omega⟩
theorem sent_any {i s h v : Int} {n : Nat} (w : World) (H : okc i s h v) (hv : 0 ≤ v) (hn : n ≤ 65535) :
 Calls Tryz.prog 73 #[VC i s h v, .int .u64 n] w fun e w' => e = .returned (.tuple #[VC i s h (v - s * n), .bool true]) ∧ Upd Nowhere w w' := by
 have hU : Upd Nowhere w ((w.alloc (.cells #[.int .i64 i, .int .i64 s, .int .i64 h, .int .i64 v] TC)).alloc (.cells #[.int .i64 0, .int .i64 0, .int .i64 0, .int .i64 0] TC)) := ((Upd.refl _ _).alloc _).alloc _
 have hB : Blk ((w.alloc (.cells #[.int .i64 i, .int .i64 s, .int .i64 h, .int .i64 v] TC)).alloc (.cells #[.int .i64 0, .int .i64 0, .int .i64 0, .int .i64 0] TC)) w.heap.size #[.int .i64 i, .int .i64 s, .int .i64 h, .int .i64 v] TC := (Blk.new _ _ _).alloc _
 have hN : Blk ((w.alloc (.cells #[.int .i64 i, .int .i64 s, .int .i64 h, .int .i64 v] TC)).alloc (.cells #[.int .i64 0, .int .i64 0, .int .i64 0, .int .i64 0] TC)) (w.heap.size + 1) #[.int .i64 0, .int .i64 0, .int .i64 0, .int .i64 0] TC := Blk.new2 _ _ _ _
 have HC := Lib.hid (check_ok ((w.alloc (.cells #[.int .i64 i, .int .i64 s, .int .i64 h, .int .i64 v] TC)).alloc (.cells #[.int .i64 0, .int .i64 0, .int .i64 0, .int .i64 0] TC)) H)
 obtain ⟨h1, h2⟩ := cost_le H.2.1.1 H.2.1.2 hn
 have h5 := H.2.2.2.2
 have h6 := H.2.2.1.2
 obtain ⟨P, hP⟩ : ∃ P : Int, s * (n : Int) = P := ⟨_, rfl⟩
 rw [hP] at h1 h2 ⊢
 obtain ⟨R, hR⟩ : ∃ R : Int, v - P = R := ⟨_, rfl⟩
 rw [hR]
 have d1 : decide (v < 0) = false := by simp; omega
 have d2 : decide (65535 < n) = false := by simp; omega
 clear H
 go_enter Tryz.func73, Tryz.ntmps73
 go_wp2_with fail
 refine (HC.out).mono ?_
 rintro e w1 ⟨rfl, hu⟩
 have hB1 := hB.kept hu id
 have hN1 := hN.kept hu id
 have hU1 := hU.trans hu (fun _ _ h => h)
 obtain ⟨c0, c1, c2, c3, y0, y1, y2, y3⟩ := cells4 hB1
 obtain ⟨k0, k1, k2, k3, z0, z1, z2, z3⟩ := cells4 hN1
 clear hB hN hU hu HC
 go_wp2_with fail
 exact bodyPost_ret (v := .tuple #[VC i s h R, .bool true]) (by simp [results, Tryz.results73, go_sem, k0, k1, k2, k3]) rfl ⟨rfl, (by repeat (first | with_reducible exact hU1 | with_reducible refine Upd.drewN ?_ _ | with_reducible refine Upd.drew ?_ | with_reducible refine Upd.setNew ?_ (Nat.le_succ _) _ | with_reducible refine Upd.setNew ?_ (Nat.le_refl _) _))⟩
end Go.Proofs.YtdddfmdcjjbegaaGreat.Credit

