/- bucket, and the reference's bucket: Check, Tick, Take, New. -/
import Derived.Test.YtgmiggnlhcldlaaSat5
import Derived.Test.YtgmiggnlhcldlaaCells
import Derived.Test.YtgmiggnlhcldlaaMix
namespace Go.Proofs.Ytgmiggnlhcldlaa.Bucket
open Go.RowKit Go.Proofs BigFrame
open Wide (Gives)
set_option maxHeartbeats 1000000
set_option maxRecDepth 100000
/-- Whether a bucket may be. -/
def chk (r b t : Nat) : Nat := if r = 0 then 27 else if b = 0 ∨ b < t then 28 else 0
theorem chk_ok {r b t : Nat} : chk r b t = 0 ↔ 0 < r ∧ 0 < b ∧ t ≤ b := by
  unfold chk; split <;> (try split) <;> omega
theorem chk_le (r b t : Nat) : chk r b t ≤ 28 := by
  unfold chk; split <;> (try split) <;> omega
theorem check_any (r b t : Nat) (w : World) : Calls Try.prog 19 #[.agg #[.int .u64 r, .int .u64 b, .int .u64 t]] w fun e w' => Gives w (.int .i64 (chk r b t : Nat)) e w' := by
  rcases Nat.eq_zero_or_pos r with rfl | hr
  · have e : chk 0 b t = 27 := rfl
    rw [e]
    go_enter Try.func19, Try.ntmps19
    go_wp2_with fail
    go_ret
    exact ⟨rfl, (Upd.refl _ _).alloc _⟩
  · have er : ((r : Int) == 0) = false := by simp; omega
    rcases Nat.eq_zero_or_pos b with rfl | hb
    · have e : chk r 0 t = 28 := by unfold chk; rw [if_neg (by omega)]; simp
      rw [e]
      go_enter Try.func19, Try.ntmps19
      go_wp2_with fail
      go_ret
      exact ⟨rfl, (Upd.refl _ _).alloc _⟩
    · have eb : ((b : Int) == 0) = false := by simp; omega
      rcases Nat.lt_or_ge b t with ht | ht
      · have e : chk r b t = 28 := by unfold chk; rw [if_neg (by omega), if_pos (by omega)]
        rw [e]
        go_enter Try.func19, Try.ntmps19
        go_wp2_with fail
        go_ret
        exact ⟨rfl, (Upd.refl _ _).alloc _⟩
      · have e : chk r b t = 0 := by rw [chk_ok]; omega
        rw [e]
        go_enter Try.func19, Try.ntmps19
        go_wp2_with fail
        go_ret
        exact ⟨rfl, (Upd.refl _ _).alloc _⟩
theorem rcheck_any (r b t : Nat) (w : World) : Calls Try.prog 18 #[.agg #[.int .u64 r, .int .u64 b, .int .u64 t]] w fun e w' => Gives w (.int .i64 (chk r b t : Nat)) e w' := by
  rcases Nat.eq_zero_or_pos r with rfl | hr
  · have e : chk 0 b t = 27 := rfl
    rw [e]
    go_enter Try.func18, Try.ntmps18
    go_wp2_with fail
    go_ret
    exact ⟨rfl, (Upd.refl _ _).alloc _⟩
  · have er : ((r : Int) == 0) = false := by simp; omega
    rcases Nat.eq_zero_or_pos b with rfl | hb
    · have e : chk r 0 t = 28 := by unfold chk; rw [if_neg (by omega)]; simp
      rw [e]
      go_enter Try.func18, Try.ntmps18
      go_wp2_with fail
      go_ret
      exact ⟨rfl, (Upd.refl _ _).alloc _⟩
    · have eb : ((b : Int) == 0) = false := by simp; omega
      rcases Nat.lt_or_ge b t with ht | ht
      · have e : chk r b t = 28 := by unfold chk; rw [if_neg (by omega), if_pos (by omega)]
        rw [e]
        go_enter Try.func18, Try.ntmps18
        go_wp2_with fail
        go_ret
        exact ⟨rfl, (Upd.refl _ _).alloc _⟩
      · have e : chk r b t = 0 := by rw [chk_ok]; omega
        rw [e]
        go_enter Try.func18, Try.ntmps18
        go_wp2_with fail
        go_ret
        exact ⟨rfl, (Upd.refl _ _).alloc _⟩
theorem tick_ok (r b t n : Nat) (hr : r ≤ 18446744073709551615) (hb : b ≤ 18446744073709551615) (hn : n ≤ 18446744073709551615) (hc : chk r b t = 0) (w : World) : Calls Try.prog 20 #[.agg #[.int .u64 r, .int .u64 b, .int .u64 t], .int .u64 n] w fun e w' => Gives w (.agg #[.int .u64 r, .int .u64 b, .int .u64 (min (t + r * n) b : Nat)]) e w' := by
  have ht := (chk_ok.1 hc).2.2
  have h1 := fun u => check_any r b t u
  rw [hc] at h1
  have H1 := fun u => Lib.hid (h1 u)
  have H2 := fun u => Lib.hid (Sat.sat_muladd t r n (by omega) hr hn u)
  have hm : (if b < min (t + r * n) 18446744073709551615 then (b : Int) else ((min (t + r * n) 18446744073709551615 : Nat) : Int)) = ((min (t + r * n) b : Nat) : Int) := by split <;> omega
  generalize min (t + r * n) 18446744073709551615 = z at *
  generalize min (t + r * n) b = y at *
  clear h1 hr hb hn hc ht
  go_enter Try.func20, Try.ntmps20
  go_wp2_with fail
  refine ((H1 _).out).mono ?_
  rintro e w1 ⟨rfl, u1⟩
  have hu : Upd Nowhere w w1 := (((Upd.refl _ _).alloc _).alloc _).trans u1 (fun _ _ h => h)
  obtain ⟨c0, c1, c2, z0, z1, z2⟩ := cells3 (((Blk.new w #[.int .u64 r, .int .u64 b, .int .u64 t] 25).alloc (.cells #[.int .u64 0, .int .u64 0, .int .u64 0] 25)).kept u1 id)
  obtain ⟨d0, d1, d2, y0, y1, y2⟩ := cells3 ((Blk.new2 w (.cells #[.int .u64 r, .int .u64 b, .int .u64 t] 25) #[.int .u64 0, .int .u64 0, .int .u64 0] 25).kept u1 id)
  go_wp2_with fail
  refine wp_region_tail 10 (by kernel_rfl) (by kernel_rfl) ?_
  simp only [List.take_succ_cons, List.take_zero, List.drop_succ_cons, List.drop_zero]
  repeat (go_big_quiet_step ((go_at_call 43; exact quiet_same (H2 _).out)))
  refine wpQuiet_nil ?_
  rintro _ ⟨nq, rfl⟩
  go_wp2
  refine Stage.out ?_
  go_wp2
  exact bodyPost_ret (v := .agg #[.int .u64 r, .int .u64 b, .int .u64 y]) (by simp [results, Try.results20, go_sem, d0, d1, d2]) rfl ⟨rfl, by repeat (first | exact hu | refine Upd.setNew ?_ (by first | exact Nat.le_refl _ | exact Nat.le_succ _ | (simp; done) | omega) _ | refine Upd.drewN ?_ _ | refine Upd.alloc ?_ _)⟩
theorem tick_no (r b t n : Nat) (hc : chk r b t ≠ 0) (w : World) : Calls Try.prog 20 #[.agg #[.int .u64 r, .int .u64 b, .int .u64 t], .int .u64 n] w fun e w' => Gives w (.agg #[.int .u64 0, .int .u64 0, .int .u64 0]) e w' := by
  have H1 := fun u => Lib.hid (check_any r b t u)
  generalize chk r b t = c at *
  have ec : ((c : Int) == 0) = false := by simp; omega
  clear hc
  go_enter Try.func20, Try.ntmps20
  go_wp2_with fail
  refine ((H1 _).out).mono ?_
  rintro e w1 ⟨rfl, u1⟩
  have hu : Upd Nowhere w w1 := (((Upd.refl _ _).alloc _).alloc _).trans u1 (fun _ _ h => h)
  obtain ⟨c0, c1, c2, z0, z1, z2⟩ := cells3 (((Blk.new w #[.int .u64 r, .int .u64 b, .int .u64 t] 25).alloc (.cells #[.int .u64 0, .int .u64 0, .int .u64 0] 25)).kept u1 id)
  obtain ⟨d0, d1, d2, y0, y1, y2⟩ := cells3 ((Blk.new2 w (.cells #[.int .u64 r, .int .u64 b, .int .u64 t] 25) #[.int .u64 0, .int .u64 0, .int .u64 0] 25).kept u1 id)
  go_wp2_with fail
  exact bodyPost_ret (v := .agg #[.int .u64 0, .int .u64 0, .int .u64 0]) (by simp [results, Try.results20, go_sem, d0, d1, d2]) rfl ⟨rfl, by repeat (first | exact hu | refine Upd.setNew ?_ (by first | exact Nat.le_refl _ | exact Nat.le_succ _ | (simp; done) | omega) _ | refine Upd.drewN ?_ _ | refine Upd.alloc ?_ _)⟩
theorem take_no (r b t n : Nat) (hc : chk r b t ≠ 0) (w : World) : Calls Try.prog 13 #[.agg #[.int .u64 r, .int .u64 b, .int .u64 t], .int .u64 n] w fun e w' => Gives w (.tuple #[.agg #[.int .u64 0, .int .u64 0, .int .u64 0], .bool false]) e w' := by
  have H1 := fun u => Lib.hid (check_any r b t u)
  generalize chk r b t = c at *
  have ec : ((c : Int) == 0) = false := by simp; omega
  clear hc
  go_enter Try.func13, Try.ntmps13
  go_wp2_with fail
  refine ((H1 _).out).mono ?_
  rintro e w1 ⟨rfl, u1⟩
  have hu : Upd Nowhere w w1 := (((Upd.refl _ _).alloc _).alloc _).trans u1 (fun _ _ h => h)
  obtain ⟨c0, c1, c2, z0, z1, z2⟩ := cells3 (((Blk.new w #[.int .u64 r, .int .u64 b, .int .u64 t] 25).alloc (.cells #[.int .u64 0, .int .u64 0, .int .u64 0] 25)).kept u1 id)
  obtain ⟨d0, d1, d2, y0, y1, y2⟩ := cells3 ((Blk.new2 w (.cells #[.int .u64 r, .int .u64 b, .int .u64 t] 25) #[.int .u64 0, .int .u64 0, .int .u64 0] 25).kept u1 id)
  go_wp2_with fail
  exact bodyPost_ret (v := .tuple #[.agg #[.int .u64 0, .int .u64 0, .int .u64 0], .bool false]) (by simp [results, Try.results13, go_sem, d0, d1, d2]) rfl ⟨rfl, by repeat (first | exact hu | refine Upd.setNew ?_ (by first | exact Nat.le_refl _ | exact Nat.le_succ _ | (simp; done) | omega) _ | refine Upd.drewN ?_ _ | refine Upd.alloc ?_ _)⟩
theorem take_less (r b t n : Nat) (hc : chk r b t = 0) (hn : t < n) (w : World) : Calls Try.prog 13 #[.agg #[.int .u64 r, .int .u64 b, .int .u64 t], .int .u64 n] w fun e w' => Gives w (.tuple #[.agg #[.int .u64 r, .int .u64 b, .int .u64 t], .bool false]) e w' := by
  have h1 := fun u => check_any r b t u
  rw [hc] at h1
  have H1 := fun u => Lib.hid (h1 u)
  clear h1 hc
  go_enter Try.func13, Try.ntmps13
  go_wp2_with fail
  refine ((H1 _).out).mono ?_
  rintro e w1 ⟨rfl, u1⟩
  have hu : Upd Nowhere w w1 := (((Upd.refl _ _).alloc _).alloc _).trans u1 (fun _ _ h => h)
  obtain ⟨c0, c1, c2, z0, z1, z2⟩ := cells3 (((Blk.new w #[.int .u64 r, .int .u64 b, .int .u64 t] 25).alloc (.cells #[.int .u64 0, .int .u64 0, .int .u64 0] 25)).kept u1 id)
  obtain ⟨d0, d1, d2, y0, y1, y2⟩ := cells3 ((Blk.new2 w (.cells #[.int .u64 r, .int .u64 b, .int .u64 t] 25) #[.int .u64 0, .int .u64 0, .int .u64 0] 25).kept u1 id)
  go_wp2_with fail
  exact bodyPost_ret (v := .tuple #[.agg #[.int .u64 r, .int .u64 b, .int .u64 t], .bool false]) (by simp [results, Try.results13, go_sem, d0, d1, d2]) rfl ⟨rfl, by repeat (first | exact hu | refine Upd.setNew ?_ (by first | exact Nat.le_refl _ | exact Nat.le_succ _ | (simp; done) | omega) _ | refine Upd.drewN ?_ _ | refine Upd.alloc ?_ _)⟩
theorem take_yes (r b t n : Nat) (hc : chk r b t = 0) (ht : t ≤ 18446744073709551615) (hn : n ≤ t) (w : World) : Calls Try.prog 13 #[.agg #[.int .u64 r, .int .u64 b, .int .u64 t], .int .u64 n] w fun e w' => Gives w (.tuple #[.agg #[.int .u64 r, .int .u64 b, .int .u64 (t - n : Nat)], .bool true]) e w' := by
  have h1 := fun u => check_any r b t u
  rw [hc] at h1
  have H1 := fun u => Lib.hid (h1 u)
  have ew : IntKind.u64.wrap ((t : Int) - (n : Int)) = ((t - n : Nat) : Int) := by rw [IntKind.wrap_u64]; omega
  generalize t - n = d at *
  clear h1 hc ht
  go_enter Try.func13, Try.ntmps13
  go_wp2_with fail
  refine ((H1 _).out).mono ?_
  rintro e w1 ⟨rfl, u1⟩
  have hu : Upd Nowhere w w1 := (((Upd.refl _ _).alloc _).alloc _).trans u1 (fun _ _ h => h)
  obtain ⟨c0, c1, c2, z0, z1, z2⟩ := cells3 (((Blk.new w #[.int .u64 r, .int .u64 b, .int .u64 t] 25).alloc (.cells #[.int .u64 0, .int .u64 0, .int .u64 0] 25)).kept u1 id)
  obtain ⟨d0, d1, d2, y0, y1, y2⟩ := cells3 ((Blk.new2 w (.cells #[.int .u64 r, .int .u64 b, .int .u64 t] 25) #[.int .u64 0, .int .u64 0, .int .u64 0] 25).kept u1 id)
  go_wp2_with fail
  exact bodyPost_ret (v := .tuple #[.agg #[.int .u64 r, .int .u64 b, .int .u64 d], .bool true]) (by simp [results, Try.results13, go_sem, d0, d1, d2]) rfl ⟨rfl, by repeat (first | exact hu | refine Upd.setNew ?_ (by first | exact Nat.le_refl _ | exact Nat.le_succ _ | (simp; done) | omega) _ | refine Upd.drewN ?_ _ | refine Upd.alloc ?_ _)⟩
theorem rtick_ok (r b t n : Nat) (hr : r ≤ 18446744073709551615) (hb : b ≤ 18446744073709551615) (hn : n ≤ 18446744073709551615) (hc : chk r b t = 0) (w : World) : Calls Try.prog 21 #[.agg #[.int .u64 r, .int .u64 b, .int .u64 t], .int .u64 n] w fun e w' => Gives w (.agg #[.int .u64 r, .int .u64 b, .int .u64 (min (t + r * n) b : Nat)]) e w' := by
  have ht := (chk_ok.1 hc).2.2
  have h1 := fun u => rcheck_any r b t u
  rw [hc] at h1
  have H1 := fun u => Lib.hid (h1 u)
  have H2 := fun u => Lib.hid (Sat.ref_muladd t r n (by omega) hr hn u)
  obtain ⟨z, hz⟩ : ∃ z, min (t + r * n) 18446744073709551615 = z := ⟨_, rfl⟩
  obtain ⟨y, hy⟩ : ∃ y, min (t + r * n) b = y := ⟨_, rfl⟩
  rw [hy]
  rw [hz] at H2
  have hcase : (b < z ∧ b = y) ∨ (z ≤ b ∧ y = z) := by omega
  clear h1 hr hb hn hc ht hz hy
  rcases hcase with ⟨hlt, rfl⟩ | ⟨hge, rfl⟩
  all_goals
    go_enter Try.func21, Try.ntmps21
    go_wp2_with fail
    refine ((H1 _).out).mono ?_
    rintro e w1 ⟨rfl, u1⟩
    have hu : Upd Nowhere w w1 := (((Upd.refl _ _).alloc _).alloc _).trans u1 (fun _ _ h => h)
    obtain ⟨c0, c1, c2, z0, z1, z2⟩ := cells3 (((Blk.new w #[.int .u64 r, .int .u64 b, .int .u64 t] 24).alloc (.cells #[.int .u64 0, .int .u64 0, .int .u64 0] 24)).kept u1 id)
    obtain ⟨d0, d1, d2, y0, y1, y2⟩ := cells3 ((Blk.new2 w (.cells #[.int .u64 r, .int .u64 b, .int .u64 t] 24) #[.int .u64 0, .int .u64 0, .int .u64 0] 24).kept u1 id)
    go_wp2_with fail
    refine ((H2 _).out).mono ?_
    rintro e w2 ⟨rfl, u2⟩
    have hu2 := hu.trans u2 (fun _ _ h => h)
    obtain ⟨c0, c1, c2, z0, z1, z2⟩ := cells3 ((((Blk.new w #[.int .u64 r, .int .u64 b, .int .u64 t] 24).alloc (.cells #[.int .u64 0, .int .u64 0, .int .u64 0] 24)).kept u1 id).kept u2 id)
    obtain ⟨d0, d1, d2, y0, y1, y2⟩ := cells3 (((Blk.new2 w (.cells #[.int .u64 r, .int .u64 b, .int .u64 t] 24) #[.int .u64 0, .int .u64 0, .int .u64 0] 24).kept u1 id).kept u2 id)
    clear u2 u1 hu
    go_wp2_with fail
  · exact bodyPost_ret (v := .agg #[.int .u64 r, .int .u64 b, .int .u64 b]) (by simp [results, Try.results21, go_sem, d0, d1, d2]) rfl ⟨rfl, by repeat (first | exact hu2 | refine Upd.setNew ?_ (by first | exact Nat.le_refl _ | exact Nat.le_succ _ | (simp; done) | omega) _ | refine Upd.drewN ?_ _ | refine Upd.alloc ?_ _)⟩
  · exact bodyPost_ret (v := .agg #[.int .u64 r, .int .u64 b, .int .u64 y]) (by simp [results, Try.results21, go_sem, d0, d1, d2]) rfl ⟨rfl, by repeat (first | exact hu2 | refine Upd.setNew ?_ (by first | exact Nat.le_refl _ | exact Nat.le_succ _ | (simp; done) | omega) _ | refine Upd.drewN ?_ _ | refine Upd.alloc ?_ _)⟩
theorem rtick_no (r b t n : Nat) (hc : chk r b t ≠ 0) (w : World) : Calls Try.prog 21 #[.agg #[.int .u64 r, .int .u64 b, .int .u64 t], .int .u64 n] w fun e w' => Gives w (.agg #[.int .u64 0, .int .u64 0, .int .u64 0]) e w' := by
  have H1 := fun u => Lib.hid (rcheck_any r b t u)
  generalize chk r b t = c at *
  have ec : ((c : Int) == 0) = false := by simp; omega
  clear hc
  go_enter Try.func21, Try.ntmps21
  go_wp2_with fail
  refine ((H1 _).out).mono ?_
  rintro e w1 ⟨rfl, u1⟩
  have hu : Upd Nowhere w w1 := (((Upd.refl _ _).alloc _).alloc _).trans u1 (fun _ _ h => h)
  obtain ⟨c0, c1, c2, z0, z1, z2⟩ := cells3 (((Blk.new w #[.int .u64 r, .int .u64 b, .int .u64 t] 24).alloc (.cells #[.int .u64 0, .int .u64 0, .int .u64 0] 24)).kept u1 id)
  obtain ⟨d0, d1, d2, y0, y1, y2⟩ := cells3 ((Blk.new2 w (.cells #[.int .u64 r, .int .u64 b, .int .u64 t] 24) #[.int .u64 0, .int .u64 0, .int .u64 0] 24).kept u1 id)
  go_wp2_with fail
  exact bodyPost_ret (v := .agg #[.int .u64 0, .int .u64 0, .int .u64 0]) (by simp [results, Try.results21, go_sem, d0, d1, d2]) rfl ⟨rfl, by repeat (first | exact hu | refine Upd.setNew ?_ (by first | exact Nat.le_refl _ | exact Nat.le_succ _ | (simp; done) | omega) _ | refine Upd.drewN ?_ _ | refine Upd.alloc ?_ _)⟩
theorem rtake_no (r b t n : Nat) (hc : chk r b t ≠ 0) (w : World) : Calls Try.prog 14 #[.agg #[.int .u64 r, .int .u64 b, .int .u64 t], .int .u64 n] w fun e w' => Gives w (.tuple #[.agg #[.int .u64 0, .int .u64 0, .int .u64 0], .bool false]) e w' := by
  have H1 := fun u => Lib.hid (rcheck_any r b t u)
  generalize chk r b t = c at *
  have ec : ((c : Int) == 0) = false := by simp; omega
  clear hc
  go_enter Try.func14, Try.ntmps14
  go_wp2_with fail
  refine ((H1 _).out).mono ?_
  rintro e w1 ⟨rfl, u1⟩
  have hu : Upd Nowhere w w1 := (((Upd.refl _ _).alloc _).alloc _).trans u1 (fun _ _ h => h)
  obtain ⟨c0, c1, c2, z0, z1, z2⟩ := cells3 (((Blk.new w #[.int .u64 r, .int .u64 b, .int .u64 t] 24).alloc (.cells #[.int .u64 0, .int .u64 0, .int .u64 0] 24)).kept u1 id)
  obtain ⟨d0, d1, d2, y0, y1, y2⟩ := cells3 ((Blk.new2 w (.cells #[.int .u64 r, .int .u64 b, .int .u64 t] 24) #[.int .u64 0, .int .u64 0, .int .u64 0] 24).kept u1 id)
  go_wp2_with fail
  exact bodyPost_ret (v := .tuple #[.agg #[.int .u64 0, .int .u64 0, .int .u64 0], .bool false]) (by simp [results, Try.results14, go_sem, d0, d1, d2]) rfl ⟨rfl, by repeat (first | exact hu | refine Upd.setNew ?_ (by first | exact Nat.le_refl _ | exact Nat.le_succ _ | (simp; done) | omega) _ | refine Upd.drewN ?_ _ | refine Upd.alloc ?_ _)⟩
theorem rtake_less (r b t n : Nat) (hc : chk r b t = 0) (hn : t < n) (w : World) : Calls Try.prog 14 #[.agg #[.int .u64 r, .int .u64 b, .int .u64 t], .int .u64 n] w fun e w' => Gives w (.tuple #[.agg #[.int .u64 r, .int .u64 b, .int .u64 t], .bool false]) e w' := by
  have h1 := fun u => rcheck_any r b t u
  rw [hc] at h1
  have H1 := fun u => Lib.hid (h1 u)
  clear h1 hc
  go_enter Try.func14, Try.ntmps14
  go_wp2_with fail
  refine ((H1 _).out).mono ?_
  rintro e w1 ⟨rfl, u1⟩
  have hu : Upd Nowhere w w1 := (((Upd.refl _ _).alloc _).alloc _).trans u1 (fun _ _ h => h)
  obtain ⟨c0, c1, c2, z0, z1, z2⟩ := cells3 (((Blk.new w #[.int .u64 r, .int .u64 b, .int .u64 t] 24).alloc (.cells #[.int .u64 0, .int .u64 0, .int .u64 0] 24)).kept u1 id)
  obtain ⟨d0, d1, d2, y0, y1, y2⟩ := cells3 ((Blk.new2 w (.cells #[.int .u64 r, .int .u64 b, .int .u64 t] 24) #[.int .u64 0, .int .u64 0, .int .u64 0] 24).kept u1 id)
  go_wp2_with fail
  exact bodyPost_ret (v := .tuple #[.agg #[.int .u64 r, .int .u64 b, .int .u64 t], .bool false]) (by simp [results, Try.results14, go_sem, d0, d1, d2]) rfl ⟨rfl, by repeat (first | exact hu | refine Upd.setNew ?_ (by first | exact Nat.le_refl _ | exact Nat.le_succ _ | (simp; done) | omega) _ | refine Upd.drewN ?_ _ | refine Upd.alloc ?_ _)⟩
theorem rtake_yes (r b t n : Nat) (hc : chk r b t = 0) (ht : t ≤ 18446744073709551615) (hn : n ≤ t) (w : World) : Calls Try.prog 14 #[.agg #[.int .u64 r, .int .u64 b, .int .u64 t], .int .u64 n] w fun e w' => Gives w (.tuple #[.agg #[.int .u64 r, .int .u64 b, .int .u64 (t - n : Nat)], .bool true]) e w' := by
  have h1 := fun u => rcheck_any r b t u
  rw [hc] at h1
  have H1 := fun u => Lib.hid (h1 u)
  have ew : IntKind.u64.wrap ((t : Int) - (n : Int)) = ((t - n : Nat) : Int) := by rw [IntKind.wrap_u64]; omega
  generalize t - n = d at *
  clear h1 hc ht
  go_enter Try.func14, Try.ntmps14
  go_wp2_with fail
  refine ((H1 _).out).mono ?_
  rintro e w1 ⟨rfl, u1⟩
  have hu : Upd Nowhere w w1 := (((Upd.refl _ _).alloc _).alloc _).trans u1 (fun _ _ h => h)
  obtain ⟨c0, c1, c2, z0, z1, z2⟩ := cells3 (((Blk.new w #[.int .u64 r, .int .u64 b, .int .u64 t] 24).alloc (.cells #[.int .u64 0, .int .u64 0, .int .u64 0] 24)).kept u1 id)
  obtain ⟨d0, d1, d2, y0, y1, y2⟩ := cells3 ((Blk.new2 w (.cells #[.int .u64 r, .int .u64 b, .int .u64 t] 24) #[.int .u64 0, .int .u64 0, .int .u64 0] 24).kept u1 id)
  go_wp2_with fail
  exact bodyPost_ret (v := .tuple #[.agg #[.int .u64 r, .int .u64 b, .int .u64 d], .bool true]) (by simp [results, Try.results14, go_sem, d0, d1, d2]) rfl ⟨rfl, by repeat (first | exact hu | refine Upd.setNew ?_ (by first | exact Nat.le_refl _ | exact Nat.le_succ _ | (simp; done) | omega) _ | refine Upd.drewN ?_ _ | refine Upd.alloc ?_ _)⟩
end Go.Proofs.Ytgmiggnlhcldlaa.Bucket
