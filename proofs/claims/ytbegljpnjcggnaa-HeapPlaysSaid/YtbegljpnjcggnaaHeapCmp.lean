/- heappifo: compare, as slices.SortFunc asks for it. -/
import Derived.Test.YtbegljpnjcggnaaHeapI5
import Derived.Sort.Grow
namespace Go.Proofs.Ytbegljpnjcggnaa.HeapI
open Go.RowKit Go.Proofs BigFrame Heap Go.Sort
set_option maxHeartbeats 1000000
/-- What compare tells. -/
def cf (x y : En) : Int := if ahd x y then -1 else if ahd y x then 1 else 0
theorem ahead_grow (x y : En) (w : World) :
    Calls Try.prog 30 #[V x, V y] w fun e w' => e = .returned (.bool (ahd x y)) ∧ w' = (w.alloc (.cells #[.int .u64 x.1, .int .u64 x.2.1, .int .i64 x.2.2] TE)).alloc (.cells #[.int .u64 y.1, .int .u64 y.2.1, .int .i64 y.2.2] TE) := by
  obtain ⟨x0, x1, x2⟩ := x
  obtain ⟨y0, y1, y2⟩ := y
  by_cases h1 : x0 < y0
  · have d1 : decide (x0 < y0) = true := decide_eq_true h1
    have e : ahd (x0, x1, x2) (y0, y1, y2) = true := by rw [ahd_iff]; exact .inl h1
    rw [e]
    go_enter Try.func30, Try.ntmps30
    go_wp2_with fail
    go_ret
    exact ⟨rfl, rfl⟩
  · have d1 : decide (x0 < y0) = false := decide_eq_false h1
    by_cases h2 : x0 = y0
    · have d2 : decide (x0 = y0) = true := decide_eq_true h2
      have d3 : ((x0 : Int) == y0) = true := by simp [h2]
      have e : ahd (x0, x1, x2) (y0, y1, y2) = decide (x1 < y1) := by unfold ahd; simp [h2]
      rw [e]
      have H2 := Lib.hid h2
      clear h2
      go_enter Try.func30, Try.ntmps30
      go_wp2_with fail
      go_ret
      exact ⟨rfl, rfl⟩
    · have d2 : decide (x0 = y0) = false := decide_eq_false h2
      have d3 : ((x0 : Int) == y0) = false := by simp; omega
      have e : ahd (x0, x1, x2) (y0, y1, y2) = false := by rw [ahd_not]; simp; omega
      rw [e]
      go_enter Try.func30, Try.ntmps30
      go_wp2_with fail
      go_ret
      exact ⟨rfl, rfl⟩
theorem compare_any (x y : En) (w : World) :
    Calls Try.prog 26 #[V x, V y] w fun e w' => e = .returned (.int .i64 (cf x y)) ∧ ∃ q os', w' = grow (w.drewN q) os' := by
  have HA := fun u => Lib.hid (ahead_grow x y u)
  have HB := fun u => Lib.hid (ahead_grow y x u)
  obtain ⟨x0, x1, x2⟩ := x
  obtain ⟨y0, y1, y2⟩ := y
  obtain ⟨c, hc⟩ : ∃ c, cf (x0, x1, x2) (y0, y1, y2) = c := ⟨_, rfl⟩
  rw [hc]
  unfold cf at hc
  have HC := Lib.hid hc
  clear hc
  have hB : Blk ((w.alloc (.cells #[.int .u64 x0, .int .u64 x1, .int .i64 x2] TE)).alloc (.cells #[.int .u64 y0, .int .u64 y1, .int .i64 y2] TE)) w.heap.size #[.int .u64 x0, .int .u64 x1, .int .i64 x2] TE := (Blk.new _ _ _).alloc _
  have hC : Blk ((w.alloc (.cells #[.int .u64 x0, .int .u64 x1, .int .i64 x2] TE)).alloc (.cells #[.int .u64 y0, .int .u64 y1, .int .i64 y2] TE)) (w.heap.size + 1) #[.int .u64 y0, .int .u64 y1, .int .i64 y2] TE := Blk.new2 _ _ _ _
  obtain ⟨c0, c1, c2, z0, z1, z2⟩ := cells3 hB
  obtain ⟨b0, b1, b2, y0', y1', y2'⟩ := cells3 hC
  clear hB hC
  go_enter Try.func26, Try.ntmps26
  go_wp2_with fail
  refine (HA _).out.mono ?_
  rintro e w3 ⟨rfl, hw3⟩
  have k0 := c0
  cases hxy : ahd (x0, x1, x2) (y0, y1, y2) with
  | true =>
    have hcv := HC.out
    rw [if_pos hxy] at hcv
    subst hcv
    have HW3 := Lib.hid hw3
    clear hw3 HC hxy
    go_wp2_with fail
    go_ret
    exact ⟨rfl, 0, _, by rw [HW3.out, alloc_eq_grow, alloc_eq_grow, alloc_eq_grow, alloc_eq_grow, grow_grow, grow_grow, grow_grow]; rfl⟩
  | false =>
    have hu3 : Upd Nowhere ((w.alloc (.cells #[.int .u64 x0, .int .u64 x1, .int .i64 x2] TE)).alloc (.cells #[.int .u64 y0, .int .u64 y1, .int .i64 y2] TE)) w3 := by rw [hw3]; exact ((Upd.refl _ _).alloc _).alloc _
    have d0 := cell_old hu3 c0
    have d1 := cell_old hu3 c1
    have d2 := cell_old hu3 c2
    have e0 := cell_old hu3 b0
    have e1 := cell_old hu3 b1
    have e2 := cell_old hu3 b2
    have HW3 := Lib.hid hw3
    have HXY := Lib.hid hxy
    clear hw3 hxy hu3 c0 c1 c2 z0 z1 z2 b0 b1 b2 y0' y1' y2' k0
    go_wp2_with fail
    refine (HB _).out.mono ?_
    rintro e w4 ⟨rfl, hw4⟩
    have HW4 := Lib.hid hw4
    clear hw4
    have hcv := HC.out
    rw [if_neg (by rw [HXY.out]; simp)] at hcv
    cases hyx : ahd (y0, y1, y2) (x0, x1, x2) with
    | true =>
      rw [if_pos hyx] at hcv
      subst hcv
      clear hyx HC
      go_wp2_with fail
      go_ret
      exact ⟨rfl, 0, _, by rw [HW4.out, HW3.out, alloc_eq_grow, alloc_eq_grow, alloc_eq_grow, alloc_eq_grow, alloc_eq_grow, alloc_eq_grow, grow_grow, grow_grow, grow_grow, grow_grow, grow_grow]; rfl⟩
    | false =>
      rw [if_neg (by rw [hyx]; simp)] at hcv
      subst hcv
      clear hyx HC
      go_wp2_with fail
      go_ret
      exact ⟨rfl, 0, _, by rw [HW4.out, HW3.out, alloc_eq_grow, alloc_eq_grow, alloc_eq_grow, alloc_eq_grow, alloc_eq_grow, alloc_eq_grow, grow_grow, grow_grow, grow_grow, grow_grow, grow_grow]; rfl⟩
end Go.Proofs.Ytbegljpnjcggnaa.HeapI
