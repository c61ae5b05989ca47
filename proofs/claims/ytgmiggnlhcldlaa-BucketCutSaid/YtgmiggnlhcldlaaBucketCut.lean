/- BucketCut, BucketWaits. -/
import Derived.Test.YtgmiggnlhcldlaaBucketLaws
namespace Go.Proofs.Ytgmiggnlhcldlaa.Bucket
open Go.RowKit Go.Proofs BigFrame
open Wide (Gives)
open Sat (ups)
set_option maxHeartbeats 2000000
set_option maxRecDepth 100000
theorem cut_no (r b t x y : Nat) (hc : chk r b t ≠ 0) (w : World) :
    Calls Try.prog 5 #[.agg #[.int .u64 r, .int .u64 b, .int .u64 t], .int .u64 x, .int .u64 y] w fun e w' => e = .returned (.bool true) ∧ Upd Nowhere w w' := by
  have HL := fun u => Lib.hid (lives u)
  have H1 := fun u => Lib.hid (rcheck_any r b t u)
  have H2 := fun u => Lib.hid (tick_no r b t x hc u)
  generalize chk r b t = c at *
  have ec : ((c : Int) == 0) = false := by simp; omega
  have en : ((c : Int) != 0) = true := by simp; omega
  clear hc
  go_enter Try.func5, Try.ntmps5
  go_wp2_with fail
  refine ((H1 _).out).mono ?_
  rintro e w1 ⟨rfl, u1⟩
  have hB_a1 : Blk w1 (w.heap.size) #[.int .u64 r, .int .u64 b, .int .u64 t] 24 := ((Blk.new _ _ _).alloc _).kept u1 id
  have hB_c1 : Blk w1 (w.heap.size + 1) #[.int .u64 r, .int .u64 b, .int .u64 t] 25 := (Blk.new2 _ _ _ _).kept u1 id
  have hU1 : Upd Nowhere w w1 := (((Upd.refl _ _).alloc _).alloc _).trans u1 (fun _ _ h => h)
  obtain ⟨c_a0, c_a1, c_a2, z_a0, z_a1, z_a2⟩ := cells3 (hB_a1)
  obtain ⟨c_c0, c_c1, c_c2, z_c0, z_c1, z_c2⟩ := cells3 (hB_c1)
  have l_a1 := hB_a1.lt
  have l_c1 := hB_c1.lt
  go_wp2_with fail
  refine ((H2 _).out).mono ?_
  rintro e w2 ⟨rfl, u2⟩
  clear c_a0 c_a1 c_a2 z_a0 z_a1 z_a2
  clear c_c0 c_c1 c_c2 z_c0 z_c1 z_c2
  have hB_a2 : Blk w2 (w.heap.size) #[.int .u64 r, .int .u64 b, .int .u64 t] 24 := (hB_a1).kept u2 id
  have hB_c2 : Blk w2 (w.heap.size + 1) #[.int .u64 r, .int .u64 b, .int .u64 t] 25 := (hB_c1).kept u2 id
  have hU2 : Upd Nowhere w w2 := (hU1).trans u2 (fun _ _ h => h)
  clear u1
  obtain ⟨c_a0, c_a1, c_a2, z_a0, z_a1, z_a2⟩ := cells3 (hB_a2)
  obtain ⟨c_c0, c_c1, c_c2, z_c0, z_c1, z_c2⟩ := cells3 (hB_c2)
  have l_a2 := hB_a2.lt
  have l_c2 := hB_c2.lt
  clear l_a1 l_c1
  go_wp2_with fail
  refine ((HL _).out).mono ?_
  rintro e w3 ⟨rfl, u3⟩
  clear c_a0 c_a1 c_a2 z_a0 z_a1 z_a2
  clear c_c0 c_c1 c_c2 z_c0 z_c1 z_c2
  have hB_a3 : Blk w3 (w.heap.size) #[.int .u64 r, .int .u64 b, .int .u64 t] 24 := (hB_a2).kept u3 id
  have hB_c3 : Blk w3 (w.heap.size + 1) #[.int .u64 r, .int .u64 b, .int .u64 t] 25 := (hB_c2).kept u3 id
  have hU3 : Upd Nowhere w w3 := (hU2).trans u3 (fun _ _ h => h)
  clear u2
  obtain ⟨c_a0, c_a1, c_a2, z_a0, z_a1, z_a2⟩ := cells3 (hB_a3)
  obtain ⟨c_c0, c_c1, c_c2, z_c0, z_c1, z_c2⟩ := cells3 (hB_c3)
  have l_a3 := hB_a3.lt
  have l_c3 := hB_c3.lt
  clear l_a2 l_c2
  go_wp2_with fail
  go_ret
  exact ⟨rfl, hU3⟩
theorem cut_walk (r b t x y s : Nat) (F : Nat → Nat → Nat) (w : World) (ex : (x : Int) / 2 = ((x / 2 : Nat) : Int)) (ey : (y : Int) / 2 = ((y / 2 : Nat) : Int)) (es : IntKind.u64.wrap (((x / 2 : Nat) : Int) + ((y / 2 : Nat) : Int)) = (s : Int)) (bx : x / 2 ≤ 18446744073709551615) (bty : y / 2 ≤ 18446744073709551615) (bs : s ≤ 18446744073709551615) (bt : t ≤ b) (bf : F t (x / 2) ≤ b) (e1 : F (F t (x / 2)) (y / 2) = F t s) (e2 : F t 0 = t)
    (H1 : ∀ u, Hid (Calls Try.prog 18 #[.agg #[.int .u64 r, .int .u64 b, .int .u64 t]] u fun e w' => Gives u (.int .i64 0) e w'))
    (H2 : ∀ t n u, t ≤ b → n ≤ 18446744073709551615 → Hid (Calls Try.prog 20 #[.agg #[.int .u64 r, .int .u64 b, .int .u64 (t : Nat)], .int .u64 (n : Nat)] u fun e w' => Gives u (.agg #[.int .u64 r, .int .u64 b, .int .u64 (F t n : Nat)]) e w')) :
    Calls Try.prog 5 #[.agg #[.int .u64 r, .int .u64 b, .int .u64 t], .int .u64 x, .int .u64 y] w fun e w' => e = .returned (.bool true) ∧ Upd Nowhere w w' := by
  have HL := fun u => Lib.hid (lives u)
  have h3 := fun u => (H2 t 0 u bt (by omega)).out
  rw [e2] at h3
  have H3 := fun u => Lib.hid (h3 u)
  clear h3 e2
  generalize x / 2 = x' at *
  generalize y / 2 = y' at *
  go_enter Try.func5, Try.ntmps5
  go_wp2_with fail
  refine ((H1 _).out).mono ?_
  rintro e w1 ⟨rfl, u1⟩
  have hB_a1 : Blk w1 (w.heap.size) #[.int .u64 r, .int .u64 b, .int .u64 t] 24 := ((Blk.new _ _ _).alloc _).kept u1 id
  have hB_c1 : Blk w1 (w.heap.size + 1) #[.int .u64 r, .int .u64 b, .int .u64 t] 25 := (Blk.new2 _ _ _ _).kept u1 id
  have hU1 : Upd Nowhere w w1 := (((Upd.refl _ _).alloc _).alloc _).trans u1 (fun _ _ h => h)
  obtain ⟨c_a0, c_a1, c_a2, z_a0, z_a1, z_a2⟩ := cells3 (hB_a1)
  obtain ⟨c_c0, c_c1, c_c2, z_c0, z_c1, z_c2⟩ := cells3 (hB_c1)
  have l_a1 := hB_a1.lt
  have l_c1 := hB_c1.lt
  go_wp2_with fail
  have hS0 : Upd Nowhere w1 w1.drew := (Upd.refl _ _).drew
  go_region_held3 (fun w' => Upd Nowhere w1 w' ∧ w'.cell? ⟨w.heap.size + 1, 0, none⟩ = some (.int .u64 r) ∧ w'.cell? ⟨w.heap.size + 1, 1, none⟩ = some (.int .u64 b) ∧ w'.cell? ⟨w.heap.size + 1, 2, none⟩ = some (.int .u64 t)) (first | exact ⟨hS0, c_c0, c_c1, c_c2⟩ | assumption)
    (first
      | (go_at_call 20; refine (keepC3 (H2 _ _ _ (by omega) (by omega)).out (by assumption)).mono ?_; rintro e w' ⟨rfl, _⟩)
      | (go_at_call 20; refine (keepC3 (H3 _).out (by assumption)).mono ?_; rintro e w' ⟨rfl, _⟩)
      | (go_at_call 22; refine (keepC3 (HL _).out (by assumption)).mono ?_; rintro e w' ⟨rfl, _⟩))
  rename_i hS
  go_wp2_with fail
  go_ret
  exact ⟨rfl, hU1.trans hS.1 (fun _ _ h => h)⟩
theorem cut_law (r b t x y : Nat) (hr : r ≤ 18446744073709551615) (hb : b ≤ 18446744073709551615) (hx : x ≤ 18446744073709551615) (hy : y ≤ 18446744073709551615) (w : World) :
    Calls Try.prog 5 #[.agg #[.int .u64 r, .int .u64 b, .int .u64 t], .int .u64 x, .int .u64 y] w fun e w' => e = .returned (.bool true) ∧ Upd Nowhere w w' := by
  by_cases hc : chk r b t = 0
  · have hk := chk_ok.1 hc
    refine cut_walk r b t x y (x / 2 + y / 2) (fun t n => min (t + r * n) b) w rfl rfl ?_ (by omega) (by omega) (by omega) hk.2.2 (Nat.min_le_right _ _) ?_ ?_ (fun u => Lib.hid (by have := rcheck_any r b t u; rw [hc] at this; exact this)) ?_
    · rw [Bits.addN]; exact Bits.wrapN _ (by omega)
    · simp only [Nat.mul_add]; omega
    · simp only [Nat.mul_zero]; omega
    · exact fun t' n u h1 h2 => Lib.hid (tick_ok r b t' n hr hb h2 (chk_ok.2 ⟨hk.1, hk.2.1, h1⟩) u)
  · exact cut_no r b t x y hc w
end Go.Proofs.Ytgmiggnlhcldlaa.Bucket
