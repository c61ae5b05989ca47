/- codel's laws: the example; CodelLow. -/
import Derived.Test.YtgmiggnlhcldlaaCodel5
namespace Go.Proofs.Ytgmiggnlhcldlaa.Codel
open Go.RowKit Go.Proofs BigFrame
open Wide (Gives)
set_option maxHeartbeats 2000000
set_option maxRecDepth 100000
/-- The example's states. -/
def tab : List (Nat × Nat × Nat × Nat × Nat × Bool × Nat) := [(0, 0, 0, 0, 0, false, 0), (1, 100, 0, 0, 0, false, 0), (2, 100, 0, 0, 0, false, 0), (3, 100, 0, 0, 0, false, 0), (4, 100, 200, 1, 1, true, 1), (5, 100, 200, 1, 1, true, 1), (6, 100, 270, 2, 1, true, 2)]
theorem lives (w : World) : Calls Try.prog 27 #[] w fun e w' => e = .returned (.bool true) ∧ Upd Nowhere w w' := by
  have h0 := fun u => step_any 5 100 10 0 0 0 0 false 0 9 50 (by omega) (by omega) (by omega) (by omega) u
  have e0 : stp 5 100 10 0 0 0 0 false 0 9 50 = ((100, 0, 0, 0, false), false) := by decide +kernel
  rw [e0] at h0
  simp only [out] at h0
  have H0 := fun u => Lib.hid (h0 u)
  have h1 := fun u => step_any 5 100 10 100 0 0 0 false 50 9 50 (by omega) (by omega) (by omega) (by omega) u
  have e1 : stp 5 100 10 100 0 0 0 false 50 9 50 = ((100, 0, 0, 0, false), false) := by decide +kernel
  rw [e1] at h1
  simp only [out] at h1
  have H1 := fun u => Lib.hid (h1 u)
  have h2 := fun u => step_any 5 100 10 100 0 0 0 false 99 9 50 (by omega) (by omega) (by omega) (by omega) u
  have e2 : stp 5 100 10 100 0 0 0 false 99 9 50 = ((100, 0, 0, 0, false), false) := by decide +kernel
  rw [e2] at h2
  simp only [out] at h2
  have H2 := fun u => Lib.hid (h2 u)
  have h3 := fun u => step_any 5 100 10 100 0 0 0 false 100 9 50 (by omega) (by omega) (by omega) (by omega) u
  have e3 : stp 5 100 10 100 0 0 0 false 100 9 50 = ((100, 200, 1, 1, true), true) := by decide +kernel
  rw [e3] at h3
  simp only [out] at h3
  have H3 := fun u => Lib.hid (h3 u)
  have h4 := fun u => step_any 5 100 10 100 200 1 1 true 199 9 50 (by omega) (by omega) (by omega) (by omega) u
  have e4 : stp 5 100 10 100 200 1 1 true 199 9 50 = ((100, 200, 1, 1, true), false) := by decide +kernel
  rw [e4] at h4
  simp only [out] at h4
  have H4 := fun u => Lib.hid (h4 u)
  have h5 := fun u => step_any 5 100 10 100 200 1 1 true 200 9 50 (by omega) (by omega) (by omega) (by omega) u
  have e5 : stp 5 100 10 100 200 1 1 true 200 9 50 = ((100, 270, 2, 1, true), true) := by decide +kernel
  rw [e5] at h5
  simp only [out] at h5
  have H5 := fun u => Lib.hid (h5 u)
  clear h0 e0 h1 e1 h2 e2 h3 e3 h4 e4 h5 e5
  go_enter Try.func27, Try.ntmps27
  go_wp2_with fail
  go_loopw [3, 12] (fun n i wr => ∃ (k F N K L c : Nat) (D : Bool), (k, F, N, K, L, D, c) ∈ tab ∧ i = .int .i64 k ∧ n = .int .i64 c ∧ Blk wr (w.heap.size) #[.int .u64 5, .int .u64 100, .int .u64 10] 63 ∧ Blk wr (w.heap.size + 1) #[.int .u64 F, .int .u64 N, .int .u64 K, .int .u64 L, .bool D] 64 ∧ Blk wr (w.heap.size + 1 + 1) #[.int .u64 0, .int .u64 50, .int .u64 99, .int .u64 100, .int .u64 199, .int .u64 200] 22 ∧ Upd Nowhere w wr) (fun _ i _ => 6 - (intOf i).toNat)
  case atStart => exact ⟨0, 0, 0, 0, 0, 0, false, by simp [tab], rfl, rfl, ((Blk.new _ _ _).alloc _).alloc _, (Blk.new2 _ _ _ _).alloc _, Blk.new3 _ _ _ _ _, (((Upd.refl _ _).alloc _).alloc _).alloc _⟩
  case round =>
    obtain ⟨k, F, N, K, L, c, D, hmem, rfl, rfl, hB_c, hB_s, hB_l, hU⟩ := hrel
    simp only [tab, List.mem_cons, Prod.mk.injEq, List.not_mem_nil, or_false] at hmem
    rcases hmem with ⟨rfl, rfl, rfl, rfl, rfl, rfl, rfl⟩ | ⟨rfl, rfl, rfl, rfl, rfl, rfl, rfl⟩ | ⟨rfl, rfl, rfl, rfl, rfl, rfl, rfl⟩ | ⟨rfl, rfl, rfl, rfl, rfl, rfl, rfl⟩ | ⟨rfl, rfl, rfl, rfl, rfl, rfl, rfl⟩ | ⟨rfl, rfl, rfl, rfl, rfl, rfl, rfl⟩ | ⟨rfl, rfl, rfl, rfl, rfl, rfl, rfl⟩
    · obtain ⟨c_c0, c_c1, c_c2, z_c0, z_c1, z_c2⟩ := cells3 (hB_c)
      obtain ⟨c_s0, c_s1, c_s2, c_s3, c_s4, z_s0, z_s1, z_s2, z_s3, z_s4⟩ := cells5 (hB_s)
      obtain ⟨c_l0, c_l1, c_l2, c_l3, c_l4, c_l5, z_l0, z_l1, z_l2, z_l3, z_l4, z_l5⟩ := cells6 (hB_l)
      go_wp2_with fail
      refine ((H0 _).out).mono ?_
      rintro e w1 ⟨rfl, u1⟩
      clear c_c0 c_c1 c_c2 z_c0 z_c1 z_c2
      clear c_s0 c_s1 c_s2 c_s3 c_s4 z_s0 z_s1 z_s2 z_s3 z_s4
      clear c_l0 c_l1 c_l2 c_l3 c_l4 c_l5 z_l0 z_l1 z_l2 z_l3 z_l4 z_l5
      have hB_c1 : Blk w1 (w.heap.size) #[.int .u64 5, .int .u64 100, .int .u64 10] 63 := (hB_c).kept u1 id
      have hB_s1 : Blk w1 (w.heap.size + 1) #[.int .u64 0, .int .u64 0, .int .u64 0, .int .u64 0, .bool false] 64 := (hB_s).kept u1 id
      have hB_l1 : Blk w1 (w.heap.size + 1 + 1) #[.int .u64 0, .int .u64 50, .int .u64 99, .int .u64 100, .int .u64 199, .int .u64 200] 22 := (hB_l).kept u1 id
      have hU1 : Upd Nowhere w w1 := (hU).trans u1 (fun _ _ h => h)
      obtain ⟨c_c0, c_c1, c_c2, z_c0, z_c1, z_c2⟩ := cells3 (hB_c1)
      obtain ⟨c_s0, c_s1, c_s2, c_s3, c_s4, z_s0, z_s1, z_s2, z_s3, z_s4⟩ := cells5 (hB_s1)
      obtain ⟨c_l0, c_l1, c_l2, c_l3, c_l4, c_l5, z_l0, z_l1, z_l2, z_l3, z_l4, z_l5⟩ := cells6 (hB_l1)
      have l_c1 := hB_c1.lt
      have l_s1 := hB_s1.lt
      have l_l1 := hB_l1.lt
      go_wp2_with fail
      go_roundw
      case rel => exact ⟨1, 100, 0, 0, 0, 0, false, by simp [tab], rfl, rfl, ((hB_c1).far5 (g := w.heap.size + 1) (by first | (simp; done) | (dsimp only; omega)) (.int .u64 100) (.int .u64 0) (.int .u64 0) (.int .u64 0) (.bool false)).alloc _, ((hB_s1).put5 (.int .u64 100) (.int .u64 0) (.int .u64 0) (.int .u64 0) (.bool false)).alloc _, ((hB_l1).far5 (g := w.heap.size + 1) (by first | (simp; done) | (dsimp only; omega)) (.int .u64 100) (.int .u64 0) (.int .u64 0) (.int .u64 0) (.bool false)).alloc _, ((hU1).put5 (g := w.heap.size + 1) (by first | (simp; done) | (dsimp only; omega)) (.int .u64 100) (.int .u64 0) (.int .u64 0) (.int .u64 0) (.bool false)).alloc _⟩
      case measure => simp [intOf]
    · obtain ⟨c_c0, c_c1, c_c2, z_c0, z_c1, z_c2⟩ := cells3 (hB_c)
      obtain ⟨c_s0, c_s1, c_s2, c_s3, c_s4, z_s0, z_s1, z_s2, z_s3, z_s4⟩ := cells5 (hB_s)
      obtain ⟨c_l0, c_l1, c_l2, c_l3, c_l4, c_l5, z_l0, z_l1, z_l2, z_l3, z_l4, z_l5⟩ := cells6 (hB_l)
      go_wp2_with fail
      refine ((H1 _).out).mono ?_
      rintro e w1 ⟨rfl, u1⟩
      clear c_c0 c_c1 c_c2 z_c0 z_c1 z_c2
      clear c_s0 c_s1 c_s2 c_s3 c_s4 z_s0 z_s1 z_s2 z_s3 z_s4
      clear c_l0 c_l1 c_l2 c_l3 c_l4 c_l5 z_l0 z_l1 z_l2 z_l3 z_l4 z_l5
      have hB_c1 : Blk w1 (w.heap.size) #[.int .u64 5, .int .u64 100, .int .u64 10] 63 := (hB_c).kept u1 id
      have hB_s1 : Blk w1 (w.heap.size + 1) #[.int .u64 100, .int .u64 0, .int .u64 0, .int .u64 0, .bool false] 64 := (hB_s).kept u1 id
      have hB_l1 : Blk w1 (w.heap.size + 1 + 1) #[.int .u64 0, .int .u64 50, .int .u64 99, .int .u64 100, .int .u64 199, .int .u64 200] 22 := (hB_l).kept u1 id
      have hU1 : Upd Nowhere w w1 := (hU).trans u1 (fun _ _ h => h)
      obtain ⟨c_c0, c_c1, c_c2, z_c0, z_c1, z_c2⟩ := cells3 (hB_c1)
      obtain ⟨c_s0, c_s1, c_s2, c_s3, c_s4, z_s0, z_s1, z_s2, z_s3, z_s4⟩ := cells5 (hB_s1)
      obtain ⟨c_l0, c_l1, c_l2, c_l3, c_l4, c_l5, z_l0, z_l1, z_l2, z_l3, z_l4, z_l5⟩ := cells6 (hB_l1)
      have l_c1 := hB_c1.lt
      have l_s1 := hB_s1.lt
      have l_l1 := hB_l1.lt
      go_wp2_with fail
      go_roundw
      case rel => exact ⟨2, 100, 0, 0, 0, 0, false, by simp [tab], rfl, rfl, ((hB_c1).far5 (g := w.heap.size + 1) (by first | (simp; done) | (dsimp only; omega)) (.int .u64 100) (.int .u64 0) (.int .u64 0) (.int .u64 0) (.bool false)).alloc _, ((hB_s1).put5 (.int .u64 100) (.int .u64 0) (.int .u64 0) (.int .u64 0) (.bool false)).alloc _, ((hB_l1).far5 (g := w.heap.size + 1) (by first | (simp; done) | (dsimp only; omega)) (.int .u64 100) (.int .u64 0) (.int .u64 0) (.int .u64 0) (.bool false)).alloc _, ((hU1).put5 (g := w.heap.size + 1) (by first | (simp; done) | (dsimp only; omega)) (.int .u64 100) (.int .u64 0) (.int .u64 0) (.int .u64 0) (.bool false)).alloc _⟩
      case measure => simp [intOf]
    · obtain ⟨c_c0, c_c1, c_c2, z_c0, z_c1, z_c2⟩ := cells3 (hB_c)
      obtain ⟨c_s0, c_s1, c_s2, c_s3, c_s4, z_s0, z_s1, z_s2, z_s3, z_s4⟩ := cells5 (hB_s)
      obtain ⟨c_l0, c_l1, c_l2, c_l3, c_l4, c_l5, z_l0, z_l1, z_l2, z_l3, z_l4, z_l5⟩ := cells6 (hB_l)
      go_wp2_with fail
      refine ((H2 _).out).mono ?_
      rintro e w1 ⟨rfl, u1⟩
      clear c_c0 c_c1 c_c2 z_c0 z_c1 z_c2
      clear c_s0 c_s1 c_s2 c_s3 c_s4 z_s0 z_s1 z_s2 z_s3 z_s4
      clear c_l0 c_l1 c_l2 c_l3 c_l4 c_l5 z_l0 z_l1 z_l2 z_l3 z_l4 z_l5
      have hB_c1 : Blk w1 (w.heap.size) #[.int .u64 5, .int .u64 100, .int .u64 10] 63 := (hB_c).kept u1 id
      have hB_s1 : Blk w1 (w.heap.size + 1) #[.int .u64 100, .int .u64 0, .int .u64 0, .int .u64 0, .bool false] 64 := (hB_s).kept u1 id
      have hB_l1 : Blk w1 (w.heap.size + 1 + 1) #[.int .u64 0, .int .u64 50, .int .u64 99, .int .u64 100, .int .u64 199, .int .u64 200] 22 := (hB_l).kept u1 id
      have hU1 : Upd Nowhere w w1 := (hU).trans u1 (fun _ _ h => h)
      obtain ⟨c_c0, c_c1, c_c2, z_c0, z_c1, z_c2⟩ := cells3 (hB_c1)
      obtain ⟨c_s0, c_s1, c_s2, c_s3, c_s4, z_s0, z_s1, z_s2, z_s3, z_s4⟩ := cells5 (hB_s1)
      obtain ⟨c_l0, c_l1, c_l2, c_l3, c_l4, c_l5, z_l0, z_l1, z_l2, z_l3, z_l4, z_l5⟩ := cells6 (hB_l1)
      have l_c1 := hB_c1.lt
      have l_s1 := hB_s1.lt
      have l_l1 := hB_l1.lt
      go_wp2_with fail
      go_roundw
      case rel => exact ⟨3, 100, 0, 0, 0, 0, false, by simp [tab], rfl, rfl, ((hB_c1).far5 (g := w.heap.size + 1) (by first | (simp; done) | (dsimp only; omega)) (.int .u64 100) (.int .u64 0) (.int .u64 0) (.int .u64 0) (.bool false)).alloc _, ((hB_s1).put5 (.int .u64 100) (.int .u64 0) (.int .u64 0) (.int .u64 0) (.bool false)).alloc _, ((hB_l1).far5 (g := w.heap.size + 1) (by first | (simp; done) | (dsimp only; omega)) (.int .u64 100) (.int .u64 0) (.int .u64 0) (.int .u64 0) (.bool false)).alloc _, ((hU1).put5 (g := w.heap.size + 1) (by first | (simp; done) | (dsimp only; omega)) (.int .u64 100) (.int .u64 0) (.int .u64 0) (.int .u64 0) (.bool false)).alloc _⟩
      case measure => simp [intOf]
    · obtain ⟨c_c0, c_c1, c_c2, z_c0, z_c1, z_c2⟩ := cells3 (hB_c)
      obtain ⟨c_s0, c_s1, c_s2, c_s3, c_s4, z_s0, z_s1, z_s2, z_s3, z_s4⟩ := cells5 (hB_s)
      obtain ⟨c_l0, c_l1, c_l2, c_l3, c_l4, c_l5, z_l0, z_l1, z_l2, z_l3, z_l4, z_l5⟩ := cells6 (hB_l)
      go_wp2_with fail
      refine ((H3 _).out).mono ?_
      rintro e w1 ⟨rfl, u1⟩
      clear c_c0 c_c1 c_c2 z_c0 z_c1 z_c2
      clear c_s0 c_s1 c_s2 c_s3 c_s4 z_s0 z_s1 z_s2 z_s3 z_s4
      clear c_l0 c_l1 c_l2 c_l3 c_l4 c_l5 z_l0 z_l1 z_l2 z_l3 z_l4 z_l5
      have hB_c1 : Blk w1 (w.heap.size) #[.int .u64 5, .int .u64 100, .int .u64 10] 63 := (hB_c).kept u1 id
      have hB_s1 : Blk w1 (w.heap.size + 1) #[.int .u64 100, .int .u64 0, .int .u64 0, .int .u64 0, .bool false] 64 := (hB_s).kept u1 id
      have hB_l1 : Blk w1 (w.heap.size + 1 + 1) #[.int .u64 0, .int .u64 50, .int .u64 99, .int .u64 100, .int .u64 199, .int .u64 200] 22 := (hB_l).kept u1 id
      have hU1 : Upd Nowhere w w1 := (hU).trans u1 (fun _ _ h => h)
      obtain ⟨c_c0, c_c1, c_c2, z_c0, z_c1, z_c2⟩ := cells3 (hB_c1)
      obtain ⟨c_s0, c_s1, c_s2, c_s3, c_s4, z_s0, z_s1, z_s2, z_s3, z_s4⟩ := cells5 (hB_s1)
      obtain ⟨c_l0, c_l1, c_l2, c_l3, c_l4, c_l5, z_l0, z_l1, z_l2, z_l3, z_l4, z_l5⟩ := cells6 (hB_l1)
      have l_c1 := hB_c1.lt
      have l_s1 := hB_s1.lt
      have l_l1 := hB_l1.lt
      go_wp2_with fail
      go_roundw
      case rel => exact ⟨4, 100, 200, 1, 1, 1, true, by simp [tab], rfl, rfl, ((hB_c1).far5 (g := w.heap.size + 1) (by first | (simp; done) | (dsimp only; omega)) (.int .u64 100) (.int .u64 200) (.int .u64 1) (.int .u64 1) (.bool true)).alloc _, ((hB_s1).put5 (.int .u64 100) (.int .u64 200) (.int .u64 1) (.int .u64 1) (.bool true)).alloc _, ((hB_l1).far5 (g := w.heap.size + 1) (by first | (simp; done) | (dsimp only; omega)) (.int .u64 100) (.int .u64 200) (.int .u64 1) (.int .u64 1) (.bool true)).alloc _, ((hU1).put5 (g := w.heap.size + 1) (by first | (simp; done) | (dsimp only; omega)) (.int .u64 100) (.int .u64 200) (.int .u64 1) (.int .u64 1) (.bool true)).alloc _⟩
      case measure => simp [intOf]
    · obtain ⟨c_c0, c_c1, c_c2, z_c0, z_c1, z_c2⟩ := cells3 (hB_c)
      obtain ⟨c_s0, c_s1, c_s2, c_s3, c_s4, z_s0, z_s1, z_s2, z_s3, z_s4⟩ := cells5 (hB_s)
      obtain ⟨c_l0, c_l1, c_l2, c_l3, c_l4, c_l5, z_l0, z_l1, z_l2, z_l3, z_l4, z_l5⟩ := cells6 (hB_l)
      go_wp2_with fail
      refine ((H4 _).out).mono ?_
      rintro e w1 ⟨rfl, u1⟩
      clear c_c0 c_c1 c_c2 z_c0 z_c1 z_c2
      clear c_s0 c_s1 c_s2 c_s3 c_s4 z_s0 z_s1 z_s2 z_s3 z_s4
      clear c_l0 c_l1 c_l2 c_l3 c_l4 c_l5 z_l0 z_l1 z_l2 z_l3 z_l4 z_l5
      have hB_c1 : Blk w1 (w.heap.size) #[.int .u64 5, .int .u64 100, .int .u64 10] 63 := (hB_c).kept u1 id
      have hB_s1 : Blk w1 (w.heap.size + 1) #[.int .u64 100, .int .u64 200, .int .u64 1, .int .u64 1, .bool true] 64 := (hB_s).kept u1 id
      have hB_l1 : Blk w1 (w.heap.size + 1 + 1) #[.int .u64 0, .int .u64 50, .int .u64 99, .int .u64 100, .int .u64 199, .int .u64 200] 22 := (hB_l).kept u1 id
      have hU1 : Upd Nowhere w w1 := (hU).trans u1 (fun _ _ h => h)
      obtain ⟨c_c0, c_c1, c_c2, z_c0, z_c1, z_c2⟩ := cells3 (hB_c1)
      obtain ⟨c_s0, c_s1, c_s2, c_s3, c_s4, z_s0, z_s1, z_s2, z_s3, z_s4⟩ := cells5 (hB_s1)
      obtain ⟨c_l0, c_l1, c_l2, c_l3, c_l4, c_l5, z_l0, z_l1, z_l2, z_l3, z_l4, z_l5⟩ := cells6 (hB_l1)
      have l_c1 := hB_c1.lt
      have l_s1 := hB_s1.lt
      have l_l1 := hB_l1.lt
      go_wp2_with fail
      go_roundw
      case rel => exact ⟨5, 100, 200, 1, 1, 1, true, by simp [tab], rfl, rfl, ((hB_c1).far5 (g := w.heap.size + 1) (by first | (simp; done) | (dsimp only; omega)) (.int .u64 100) (.int .u64 200) (.int .u64 1) (.int .u64 1) (.bool true)).alloc _, ((hB_s1).put5 (.int .u64 100) (.int .u64 200) (.int .u64 1) (.int .u64 1) (.bool true)).alloc _, ((hB_l1).far5 (g := w.heap.size + 1) (by first | (simp; done) | (dsimp only; omega)) (.int .u64 100) (.int .u64 200) (.int .u64 1) (.int .u64 1) (.bool true)).alloc _, ((hU1).put5 (g := w.heap.size + 1) (by first | (simp; done) | (dsimp only; omega)) (.int .u64 100) (.int .u64 200) (.int .u64 1) (.int .u64 1) (.bool true)).alloc _⟩
      case measure => simp [intOf]
    · obtain ⟨c_c0, c_c1, c_c2, z_c0, z_c1, z_c2⟩ := cells3 (hB_c)
      obtain ⟨c_s0, c_s1, c_s2, c_s3, c_s4, z_s0, z_s1, z_s2, z_s3, z_s4⟩ := cells5 (hB_s)
      obtain ⟨c_l0, c_l1, c_l2, c_l3, c_l4, c_l5, z_l0, z_l1, z_l2, z_l3, z_l4, z_l5⟩ := cells6 (hB_l)
      go_wp2_with fail
      refine ((H5 _).out).mono ?_
      rintro e w1 ⟨rfl, u1⟩
      clear c_c0 c_c1 c_c2 z_c0 z_c1 z_c2
      clear c_s0 c_s1 c_s2 c_s3 c_s4 z_s0 z_s1 z_s2 z_s3 z_s4
      clear c_l0 c_l1 c_l2 c_l3 c_l4 c_l5 z_l0 z_l1 z_l2 z_l3 z_l4 z_l5
      have hB_c1 : Blk w1 (w.heap.size) #[.int .u64 5, .int .u64 100, .int .u64 10] 63 := (hB_c).kept u1 id
      have hB_s1 : Blk w1 (w.heap.size + 1) #[.int .u64 100, .int .u64 200, .int .u64 1, .int .u64 1, .bool true] 64 := (hB_s).kept u1 id
      have hB_l1 : Blk w1 (w.heap.size + 1 + 1) #[.int .u64 0, .int .u64 50, .int .u64 99, .int .u64 100, .int .u64 199, .int .u64 200] 22 := (hB_l).kept u1 id
      have hU1 : Upd Nowhere w w1 := (hU).trans u1 (fun _ _ h => h)
      obtain ⟨c_c0, c_c1, c_c2, z_c0, z_c1, z_c2⟩ := cells3 (hB_c1)
      obtain ⟨c_s0, c_s1, c_s2, c_s3, c_s4, z_s0, z_s1, z_s2, z_s3, z_s4⟩ := cells5 (hB_s1)
      obtain ⟨c_l0, c_l1, c_l2, c_l3, c_l4, c_l5, z_l0, z_l1, z_l2, z_l3, z_l4, z_l5⟩ := cells6 (hB_l1)
      have l_c1 := hB_c1.lt
      have l_s1 := hB_s1.lt
      have l_l1 := hB_l1.lt
      go_wp2_with fail
      go_roundw
      case rel => exact ⟨6, 100, 270, 2, 1, 2, true, by simp [tab], rfl, rfl, ((hB_c1).far5 (g := w.heap.size + 1) (by first | (simp; done) | (dsimp only; omega)) (.int .u64 100) (.int .u64 270) (.int .u64 2) (.int .u64 1) (.bool true)).alloc _, ((hB_s1).put5 (.int .u64 100) (.int .u64 270) (.int .u64 2) (.int .u64 1) (.bool true)).alloc _, ((hB_l1).far5 (g := w.heap.size + 1) (by first | (simp; done) | (dsimp only; omega)) (.int .u64 100) (.int .u64 270) (.int .u64 2) (.int .u64 1) (.bool true)).alloc _, ((hU1).put5 (g := w.heap.size + 1) (by first | (simp; done) | (dsimp only; omega)) (.int .u64 100) (.int .u64 270) (.int .u64 2) (.int .u64 1) (.bool true)).alloc _⟩
      case measure => simp [intOf]
    · go_wp2_with fail
      go_ret
      exact ⟨rfl, hU⟩
end Go.Proofs.Ytgmiggnlhcldlaa.Codel
