/- CodelLow. -/
import Derived.Test.YtgmiggnlhcldlaaCodelLives
namespace Go.Proofs.Ytgmiggnlhcldlaa.Codel
open Go.RowKit Go.Proofs BigFrame
open Wide (Gives)
set_option maxHeartbeats 2000000
set_option maxRecDepth 100000
theorem stp_low {T I X F N K L now wt bh : Nat} {D : Bool} (h : (stp T I X F N K L D now wt bh).2 = true) : T ≤ wt ∧ X < bh := by
  unfold stp at h
  split at h
  · by_cases hl : wt < T ∨ bh ≤ X
    · have hm : tm T I X F now wt bh = (0, false) := by unfold tm; rw [if_pos hl]
      rw [hm] at h
      simp at h
    · omega
  · simp at h
theorem low_walk (T I X F N K L now wt bh F' N' K' L' : Nat) (D D' g : Bool) (hg : g = true → T ≤ wt ∧ X < bh) (w : World)
    (H1 : ∀ u, Hid (Calls Try.prog 31 #[.agg #[.int .u64 T, .int .u64 I, .int .u64 X], .agg #[.int .u64 F, .int .u64 N, .int .u64 K, .int .u64 L, .bool D], .int .u64 now, .int .u64 wt, .int .u64 bh] u fun e w' => Gives u (.tuple #[.agg #[.int .u64 (F' : Nat), .int .u64 (N' : Nat), .int .u64 (K' : Nat), .int .u64 (L' : Nat), .bool D'], .bool g]) e w')) :
    Calls Try.prog 8 #[.agg #[.int .u64 T, .int .u64 I, .int .u64 X], .agg #[.int .u64 F, .int .u64 N, .int .u64 K, .int .u64 L, .bool D], .agg #[.int .u64 now, .int .u64 wt, .int .u64 bh]] w fun e w' => e = .returned (.bool true) ∧ Upd Nowhere w w' := by
  have HL := fun u => Lib.hid (lives u)
  cases g with
  | false =>
    clear hg
    go_enter Try.func8, Try.ntmps8
    go_wp2_with fail
    go_quiet (fail)
    have hB_c1 : Blk ((((w.alloc (.cells #[.int .u64 T, .int .u64 I, .int .u64 X] 57)).alloc (.cells #[.int .u64 F, .int .u64 N, .int .u64 K, .int .u64 L, .bool D] 59)).alloc (.cells #[.int .u64 now, .int .u64 wt, .int .u64 bh] 73)).drewN nq) (w.heap.size) #[.int .u64 T, .int .u64 I, .int .u64 X] 57 := (((Blk.new _ _ _).alloc _).alloc _).drewN nq
    have hB_s1 : Blk ((((w.alloc (.cells #[.int .u64 T, .int .u64 I, .int .u64 X] 57)).alloc (.cells #[.int .u64 F, .int .u64 N, .int .u64 K, .int .u64 L, .bool D] 59)).alloc (.cells #[.int .u64 now, .int .u64 wt, .int .u64 bh] 73)).drewN nq) (w.heap.size + 1) #[.int .u64 F, .int .u64 N, .int .u64 K, .int .u64 L, .bool D] 59 := ((Blk.new2 _ _ _ _).alloc _).drewN nq
    have hB_l1 : Blk ((((w.alloc (.cells #[.int .u64 T, .int .u64 I, .int .u64 X] 57)).alloc (.cells #[.int .u64 F, .int .u64 N, .int .u64 K, .int .u64 L, .bool D] 59)).alloc (.cells #[.int .u64 now, .int .u64 wt, .int .u64 bh] 73)).drewN nq) (w.heap.size + 1 + 1) #[.int .u64 now, .int .u64 wt, .int .u64 bh] 73 := (Blk.new3 _ _ _ _ _).drewN nq
    have hU1 : Upd Nowhere w ((((w.alloc (.cells #[.int .u64 T, .int .u64 I, .int .u64 X] 57)).alloc (.cells #[.int .u64 F, .int .u64 N, .int .u64 K, .int .u64 L, .bool D] 59)).alloc (.cells #[.int .u64 now, .int .u64 wt, .int .u64 bh] 73)).drewN nq) := ((((Upd.refl _ _).alloc _).alloc _).alloc _).drewN nq
    generalize (((w.alloc (.cells #[.int .u64 T, .int .u64 I, .int .u64 X] 57)).alloc (.cells #[.int .u64 F, .int .u64 N, .int .u64 K, .int .u64 L, .bool D] 59)).alloc (.cells #[.int .u64 now, .int .u64 wt, .int .u64 bh] 73)).drewN nq = w1 at *
    obtain ⟨c_c0, c_c1, c_c2, z_c0, z_c1, z_c2⟩ := cells3 (hB_c1)
    obtain ⟨c_s0, c_s1, c_s2, c_s3, c_s4, z_s0, z_s1, z_s2, z_s3, z_s4⟩ := cells5 (hB_s1)
    obtain ⟨c_l0, c_l1, c_l2, z_l0, z_l1, z_l2⟩ := cells3 (hB_l1)
    have l_c1 := hB_c1.lt
    have l_s1 := hB_s1.lt
    have l_l1 := hB_l1.lt
    go_wp2_with fail
    refine ((H1 _).out).mono ?_
    rintro e w2 ⟨rfl, u2⟩
    clear c_c0 c_c1 c_c2 z_c0 z_c1 z_c2
    clear c_s0 c_s1 c_s2 c_s3 c_s4 z_s0 z_s1 z_s2 z_s3 z_s4
    clear c_l0 c_l1 c_l2 z_l0 z_l1 z_l2
    have hB_c2 : Blk w2 (w.heap.size) #[.int .u64 T, .int .u64 I, .int .u64 X] 57 := (hB_c1).kept u2 id
    have hB_s2 : Blk w2 (w.heap.size + 1) #[.int .u64 F, .int .u64 N, .int .u64 K, .int .u64 L, .bool D] 59 := (hB_s1).kept u2 id
    have hB_l2 : Blk w2 (w.heap.size + 1 + 1) #[.int .u64 now, .int .u64 wt, .int .u64 bh] 73 := (hB_l1).kept u2 id
    have hU2 : Upd Nowhere w w2 := (hU1).trans u2 (fun _ _ h => h)
    obtain ⟨c_c0, c_c1, c_c2, z_c0, z_c1, z_c2⟩ := cells3 (hB_c2)
    obtain ⟨c_s0, c_s1, c_s2, c_s3, c_s4, z_s0, z_s1, z_s2, z_s3, z_s4⟩ := cells5 (hB_s2)
    obtain ⟨c_l0, c_l1, c_l2, z_l0, z_l1, z_l2⟩ := cells3 (hB_l2)
    have l_c2 := hB_c2.lt
    have l_s2 := hB_s2.lt
    have l_l2 := hB_l2.lt
    clear l_c1 l_s1 l_l1
    go_wp2_with fail
    refine ((HL _).out).mono ?_
    rintro e w3 ⟨rfl, u3⟩
    clear c_c0 c_c1 c_c2 z_c0 z_c1 z_c2
    clear c_s0 c_s1 c_s2 c_s3 c_s4 z_s0 z_s1 z_s2 z_s3 z_s4
    clear c_l0 c_l1 c_l2 z_l0 z_l1 z_l2
    have hB_c3 : Blk w3 (w.heap.size) #[.int .u64 T, .int .u64 I, .int .u64 X] 57 := (hB_c2.alloc _).kept u3 id
    have hB_s3 : Blk w3 (w.heap.size + 1) #[.int .u64 F, .int .u64 N, .int .u64 K, .int .u64 L, .bool D] 59 := (hB_s2.alloc _).kept u3 id
    have hB_l3 : Blk w3 (w.heap.size + 1 + 1) #[.int .u64 now, .int .u64 wt, .int .u64 bh] 73 := (hB_l2.alloc _).kept u3 id
    have hB_n3 : Blk w3 (w2.heap.size) #[.int .u64 F', .int .u64 N', .int .u64 K', .int .u64 L', .bool D'] 64 := (Blk.new _ _ _).kept u3 id
    have hU3 : Upd Nowhere w w3 := (hU2.alloc _).trans u3 (fun _ _ h => h)
    clear u2
    obtain ⟨c_c0, c_c1, c_c2, z_c0, z_c1, z_c2⟩ := cells3 (hB_c3)
    obtain ⟨c_s0, c_s1, c_s2, c_s3, c_s4, z_s0, z_s1, z_s2, z_s3, z_s4⟩ := cells5 (hB_s3)
    obtain ⟨c_l0, c_l1, c_l2, z_l0, z_l1, z_l2⟩ := cells3 (hB_l3)
    obtain ⟨c_n0, c_n1, c_n2, c_n3, c_n4, z_n0, z_n1, z_n2, z_n3, z_n4⟩ := cells5 (hB_n3)
    have l_c3 := hB_c3.lt
    have l_s3 := hB_s3.lt
    have l_l3 := hB_l3.lt
    have l_n3 := hB_n3.lt
    clear l_c2 l_s2 l_l2
    go_wp2_with fail
    go_ret
    exact ⟨rfl, hU3⟩
  | true =>
    have ta : decide (wt ≥ T) = true := decide_eq_true (hg rfl).1
    have tb : decide (bh > X) = true := decide_eq_true (hg rfl).2
    clear hg
    go_enter Try.func8, Try.ntmps8
    go_wp2_with fail
    go_quiet (fail)
    have hB_c1 : Blk ((((w.alloc (.cells #[.int .u64 T, .int .u64 I, .int .u64 X] 57)).alloc (.cells #[.int .u64 F, .int .u64 N, .int .u64 K, .int .u64 L, .bool D] 59)).alloc (.cells #[.int .u64 now, .int .u64 wt, .int .u64 bh] 73)).drewN nq) (w.heap.size) #[.int .u64 T, .int .u64 I, .int .u64 X] 57 := (((Blk.new _ _ _).alloc _).alloc _).drewN nq
    have hB_s1 : Blk ((((w.alloc (.cells #[.int .u64 T, .int .u64 I, .int .u64 X] 57)).alloc (.cells #[.int .u64 F, .int .u64 N, .int .u64 K, .int .u64 L, .bool D] 59)).alloc (.cells #[.int .u64 now, .int .u64 wt, .int .u64 bh] 73)).drewN nq) (w.heap.size + 1) #[.int .u64 F, .int .u64 N, .int .u64 K, .int .u64 L, .bool D] 59 := ((Blk.new2 _ _ _ _).alloc _).drewN nq
    have hB_l1 : Blk ((((w.alloc (.cells #[.int .u64 T, .int .u64 I, .int .u64 X] 57)).alloc (.cells #[.int .u64 F, .int .u64 N, .int .u64 K, .int .u64 L, .bool D] 59)).alloc (.cells #[.int .u64 now, .int .u64 wt, .int .u64 bh] 73)).drewN nq) (w.heap.size + 1 + 1) #[.int .u64 now, .int .u64 wt, .int .u64 bh] 73 := (Blk.new3 _ _ _ _ _).drewN nq
    have hU1 : Upd Nowhere w ((((w.alloc (.cells #[.int .u64 T, .int .u64 I, .int .u64 X] 57)).alloc (.cells #[.int .u64 F, .int .u64 N, .int .u64 K, .int .u64 L, .bool D] 59)).alloc (.cells #[.int .u64 now, .int .u64 wt, .int .u64 bh] 73)).drewN nq) := ((((Upd.refl _ _).alloc _).alloc _).alloc _).drewN nq
    generalize (((w.alloc (.cells #[.int .u64 T, .int .u64 I, .int .u64 X] 57)).alloc (.cells #[.int .u64 F, .int .u64 N, .int .u64 K, .int .u64 L, .bool D] 59)).alloc (.cells #[.int .u64 now, .int .u64 wt, .int .u64 bh] 73)).drewN nq = w1 at *
    obtain ⟨c_c0, c_c1, c_c2, z_c0, z_c1, z_c2⟩ := cells3 (hB_c1)
    obtain ⟨c_s0, c_s1, c_s2, c_s3, c_s4, z_s0, z_s1, z_s2, z_s3, z_s4⟩ := cells5 (hB_s1)
    obtain ⟨c_l0, c_l1, c_l2, z_l0, z_l1, z_l2⟩ := cells3 (hB_l1)
    have l_c1 := hB_c1.lt
    have l_s1 := hB_s1.lt
    have l_l1 := hB_l1.lt
    go_wp2_with fail
    refine ((H1 _).out).mono ?_
    rintro e w2 ⟨rfl, u2⟩
    clear c_c0 c_c1 c_c2 z_c0 z_c1 z_c2
    clear c_s0 c_s1 c_s2 c_s3 c_s4 z_s0 z_s1 z_s2 z_s3 z_s4
    clear c_l0 c_l1 c_l2 z_l0 z_l1 z_l2
    have hB_c2 : Blk w2 (w.heap.size) #[.int .u64 T, .int .u64 I, .int .u64 X] 57 := (hB_c1).kept u2 id
    have hB_s2 : Blk w2 (w.heap.size + 1) #[.int .u64 F, .int .u64 N, .int .u64 K, .int .u64 L, .bool D] 59 := (hB_s1).kept u2 id
    have hB_l2 : Blk w2 (w.heap.size + 1 + 1) #[.int .u64 now, .int .u64 wt, .int .u64 bh] 73 := (hB_l1).kept u2 id
    have hU2 : Upd Nowhere w w2 := (hU1).trans u2 (fun _ _ h => h)
    obtain ⟨c_c0, c_c1, c_c2, z_c0, z_c1, z_c2⟩ := cells3 (hB_c2)
    obtain ⟨c_s0, c_s1, c_s2, c_s3, c_s4, z_s0, z_s1, z_s2, z_s3, z_s4⟩ := cells5 (hB_s2)
    obtain ⟨c_l0, c_l1, c_l2, z_l0, z_l1, z_l2⟩ := cells3 (hB_l2)
    have l_c2 := hB_c2.lt
    have l_s2 := hB_s2.lt
    have l_l2 := hB_l2.lt
    clear l_c1 l_s1 l_l1
    go_wp2_with fail
    refine ((HL _).out).mono ?_
    rintro e w3 ⟨rfl, u3⟩
    clear c_c0 c_c1 c_c2 z_c0 z_c1 z_c2
    clear c_s0 c_s1 c_s2 c_s3 c_s4 z_s0 z_s1 z_s2 z_s3 z_s4
    clear c_l0 c_l1 c_l2 z_l0 z_l1 z_l2
    have hB_c3 : Blk w3 (w.heap.size) #[.int .u64 T, .int .u64 I, .int .u64 X] 57 := (hB_c2.alloc _).kept u3 id
    have hB_s3 : Blk w3 (w.heap.size + 1) #[.int .u64 F, .int .u64 N, .int .u64 K, .int .u64 L, .bool D] 59 := (hB_s2.alloc _).kept u3 id
    have hB_l3 : Blk w3 (w.heap.size + 1 + 1) #[.int .u64 now, .int .u64 wt, .int .u64 bh] 73 := (hB_l2.alloc _).kept u3 id
    have hB_n3 : Blk w3 (w2.heap.size) #[.int .u64 F', .int .u64 N', .int .u64 K', .int .u64 L', .bool D'] 64 := (Blk.new _ _ _).kept u3 id
    have hU3 : Upd Nowhere w w3 := (hU2.alloc _).trans u3 (fun _ _ h => h)
    clear u2
    obtain ⟨c_c0, c_c1, c_c2, z_c0, z_c1, z_c2⟩ := cells3 (hB_c3)
    obtain ⟨c_s0, c_s1, c_s2, c_s3, c_s4, z_s0, z_s1, z_s2, z_s3, z_s4⟩ := cells5 (hB_s3)
    obtain ⟨c_l0, c_l1, c_l2, z_l0, z_l1, z_l2⟩ := cells3 (hB_l3)
    obtain ⟨c_n0, c_n1, c_n2, c_n3, c_n4, z_n0, z_n1, z_n2, z_n3, z_n4⟩ := cells5 (hB_n3)
    have l_c3 := hB_c3.lt
    have l_s3 := hB_s3.lt
    have l_l3 := hB_l3.lt
    have l_n3 := hB_n3.lt
    clear l_c2 l_s2 l_l2
    go_wp2_with fail
    go_ret
    exact ⟨rfl, hU3⟩
theorem low_law (T I X F N K L now wt bh : Nat) (D : Bool) (hN : N ≤ 18446744073709551615) (hK : K ≤ 18446744073709551615) (hL : L ≤ 18446744073709551615) (hn : now ≤ 18446744073709551615) (w : World) :
    Calls Try.prog 8 #[.agg #[.int .u64 T, .int .u64 I, .int .u64 X], .agg #[.int .u64 F, .int .u64 N, .int .u64 K, .int .u64 L, .bool D], .agg #[.int .u64 now, .int .u64 wt, .int .u64 bh]] w fun e w' => e = .returned (.bool true) ∧ Upd Nowhere w w' :=
  low_walk T I X F N K L now wt bh _ _ _ _ D _ _ stp_low w (fun u => Lib.hid (step_any T I X F N K L D now wt bh hN hK hL hn u))
end Go.Proofs.Ytgmiggnlhcldlaa.Codel
