/- RedEven. -/
import Derived.Test.YtgmiggnlhcldlaaRedLives
namespace Go.Proofs.Ytgmiggnlhcldlaa.Red
open Go.RowKit Go.Proofs BigFrame
open Wide (Gives)
open Root (slo fol)
set_option maxHeartbeats 2000000
set_option maxRecDepth 100000
theorem fol_stays {x S : Nat} (hx : x ≤ 4398046511104) (hS : S ≤ 16) : fol (x * 2 ^ S) x S = x * 2 ^ S ∧ x * 2 ^ S / 2 ^ S = x ∧ x * 2 ^ S ≤ 288230376151711744 ∧ x ≤ x * 2 ^ S := by
  have hD : 0 < 2 ^ S := Nat.two_pow_pos S
  have hD2 : 2 ^ S ≤ 65536 := Nat.pow_le_pow_right (by omega) hS (n := 2)
  have h1 : x * 2 ^ S / 2 ^ S = x := Nat.mul_div_cancel _ hD
  have h2 : x * 2 ^ S ≤ 4398046511104 * 65536 := Nat.mul_le_mul hx hD2
  have h3 : x * 1 ≤ x * 2 ^ S := Nat.mul_le_mul_left _ hD
  refine ⟨?_, h1, by omega, by omega⟩
  unfold Root.fol
  rw [h1]
  omega
theorem gone_iff {W p ev c : Nat} (hp : 0 < p) (hW : 0 < W) (hev : Sat.ups W p = ev) (hc : c < ev) : ((c + 1) * p < W ↔ c + 1 ≠ ev) := by
  have e : Sat.ups W p = (W - 1) / p + 1 := by unfold Sat.ups; rw [if_neg (by omega), if_neg (by omega)]
  rw [e] at hev
  have h3 : c + 1 ≤ (W - 1) / p ↔ (c + 1) * p ≤ W - 1 := Nat.le_div_iff_mul_le hp
  omega
theorem cap1 {c : Nat} (hc : c < 65536) : min (c + 1) 18446744073709551615 = c + 1 := by omega
theorem cap_mul {c p : Nat} (hc : c < 65536) (hp : p ≤ 65536) : min (min (c + 1) 18446744073709551615 * p) 18446744073709551615 = (c + 1) * p := by
  have h1 : min (c + 1) 18446744073709551615 = c + 1 := by omega
  rw [h1]
  have h2 : (c + 1) * p ≤ 65536 * 65536 := Nat.mul_le_mul (by omega) hp
  omega
theorem rs_even {A B P x p ev c : Nat} {s : Int} (h : ok A B P s) (h1 : A ≤ x) (h2 : x < B) (hp : pt A B P x = p) (hg : (c + 1) * p < 65536 ↔ c + 1 ≠ ev) (hc : c < 65536)
    (f1 : fol (x * 2 ^ slo s) x (slo s) = x * 2 ^ slo s) (f2 : x * 2 ^ slo s / 2 ^ slo s = x) :
    rs A B P s (x * 2 ^ slo s) c x = ((x * 2 ^ slo s, if c + 1 = ev then 0 else c + 1), decide (c + 1 = ev)) := by
  obtain ⟨k1, _, _, k4, _, _⟩ := id h
  have hpl : p ≤ 65536 := by rw [← hp]; exact pt_lt k4 h2 k1
  have g1 : ¬ x < A := Nat.not_lt.2 h1
  have g2 : ¬ B ≤ x := Nat.not_le.2 h2
  have e := cap_mul hc hpl
  unfold rs
  rw [if_pos h, f1, f2, if_neg g1, if_neg g2, hp, e, cap1 hc]
  by_cases hce : c + 1 = ev
  · have hn : ¬ (c + 1) * p < 65536 := fun hh => hg.1 hh hce
    rw [if_neg hn, if_pos hce, decide_eq_true hce]
  · rw [if_pos (hg.2 hce), if_neg hce, decide_eq_false hce]
theorem ev_bounds {p ev : Nat} (h50 : 50 ≤ p) (hev : Sat.ups 65536 p = ev) : 0 < ev ∧ ev ≤ 1400 := by
  have e : Sat.ups 65536 p = (65536 - 1) / p + 1 := by unfold Sat.ups; rw [if_neg (by omega), if_neg (by omega)]
  rw [e] at hev
  have h1 : (65536 - 1) / p ≤ (65536 - 1) / 50 := Nat.div_le_div_left h50 (by omega)
  have h2 : (65536 - 1) / 50 = 1310 := rfl
  rw [h2] at h1
  generalize (65536 - 1) / p = q at *
  omega
theorem mod_step {i ev : Nat} (hev : 0 < ev) (hi : 0 < i) : (if (i - 1) % ev + 1 = ev then 0 else (i - 1) % ev + 1) = i % ev ∧ decide ((i - 1) % ev + 1 = ev) = decide (i % ev = 0) := by
  obtain ⟨j, rfl⟩ : ∃ j, i = j + 1 := ⟨i - 1, by omega⟩
  rw [Nat.add_sub_cancel]
  have h1 := Nat.mod_lt j hev
  have h2 := Nat.div_add_mod j ev
  by_cases h : j % ev + 1 = ev
  · have e : (j + 1) % ev = 0 := by
      have : j + 1 = ev * (j / ev + 1) := by rw [Nat.mul_add, Nat.mul_one]; omega
      rw [this]; exact Nat.mul_mod_right _ _
    rw [if_pos h, e]; simp [h]
  · have e : (j + 1) % ev = j % ev + 1 := by
      have : j + 1 = j % ev + 1 + ev * (j / ev) := by omega
      rw [this, Nat.add_mul_mod_self_left, Nat.mod_eq_of_lt (by omega)]
    rw [if_neg h, e]; simp [h]
theorem even_walk (A B P at_ S : Nat) (h : ok A B P (S : Int)) (hat : at_ ≤ 18446744073709551615) (w : World) : Calls Try.prog 12 #[.agg #[.int .u64 A, .int .u64 B, .int .u64 P, .int .i64 S], .int .u64 at_] w fun e w' => e = .returned (.bool true) ∧ Upd Nowhere w w' := by
  have HL := fun u => Lib.hid (lives u)
  have H1 := fun u => Lib.hid (may_ok A B P S h u)
  obtain ⟨k1, k2, k3, k4, k5, k6⟩ := id h
  obtain ⟨x, hx⟩ : ∃ x, A + at_ % (B - A) = x := ⟨_, rfl⟩
  have hlt := Nat.mod_lt at_ (show 0 < B - A by omega)
  have hx1 : A ≤ x := by omega
  have hx2 : x < B := by omega
  have e1 := Root.less_wrap B A (by omega) (by omega)
  have e2 : (at_ : Int) % ((B - A : Nat) : Int) = ((at_ % (B - A) : Nat) : Int) := rfl
  have e3 : IntKind.u64.wrap ((A : Int) + ((at_ % (B - A) : Nat) : Int)) = (x : Int) := by rw [Bits.addN, hx]; exact Bits.wrapN _ (by omega)
  have e4 : (((B - A : Nat) : Int) == 0) = false := by simp; omega
  have e4' : (1 : Int) ≤ ((B - A : Nat) : Int) := by omega
  have H2 := fun u => Lib.hid (rpt_any A B P x S h hx1 hx2 u)
  have hpt := pt_lt k4 hx2 k1
  obtain ⟨p, hp⟩ : ∃ p, pt A B P x = p := ⟨_, rfl⟩
  rw [hp] at H2 hpt
  generalize at_ % (B - A) = am at *
  generalize B - A = ba at *
  have H3 := fun u => Lib.hid (Sat.ref_divup 65536 p (by omega) (by omega) u)
  obtain ⟨ev, hev⟩ : ∃ ev, Sat.ups 65536 p = ev := ⟨_, rfl⟩
  rw [hev] at H3
  rcases Nat.lt_or_ge p 50 with h50 | h50
  · have t1 : decide ((p : Int) < 50) = true := decide_eq_true (by omega)
    clear h k1 k2 k3 k4 k5 k6 hx hlt hx1 hx2 hp hev H3
    rcases Nat.eq_zero_or_pos p with rfl | hp0
    · go_enter Try.func12, Try.ntmps12
      go_wp2_with fail
      refine ((H1 _).out).mono ?_
      rintro e w1 ⟨rfl, u1⟩
      have hB_c1 : Blk w1 (w.heap.size) #[.int .u64 A, .int .u64 B, .int .u64 P, .int .i64 S] 80 := (Blk.new _ _ _).kept u1 id
      have hU1 : Upd Nowhere w w1 := ((Upd.refl _ _).alloc _).trans u1 (fun _ _ h => h)
      obtain ⟨c_c0, c_c1, c_c2, c_c3, z_c0, z_c1, z_c2, z_c3⟩ := cells4 (hB_c1)
      have l_c1 := hB_c1.lt
      go_wp2_with fail
      go_quiet (fail)
      clear c_c0 c_c1 c_c2 c_c3 z_c0 z_c1 z_c2 z_c3
      have hB_c2 : Blk (w1.drewN nq) (w.heap.size) #[.int .u64 A, .int .u64 B, .int .u64 P, .int .i64 S] 80 := (hB_c1).drewN nq
      have hU2 : Upd Nowhere w (w1.drewN nq) := (hU1).drewN nq
      generalize w1.drewN nq = w2 at *
      clear u1
      obtain ⟨c_c0, c_c1, c_c2, c_c3, z_c0, z_c1, z_c2, z_c3⟩ := cells4 (hB_c2)
      have l_c2 := hB_c2.lt
      clear l_c1
      go_wp2_with fail
      refine ((H2 _).out).mono ?_
      rintro e w3 ⟨rfl, u3⟩
      clear c_c0 c_c1 c_c2 c_c3 z_c0 z_c1 z_c2 z_c3
      have hB_c3 : Blk w3 (w.heap.size) #[.int .u64 A, .int .u64 B, .int .u64 P, .int .i64 S] 80 := (hB_c2).kept u3 id
      have hU3 : Upd Nowhere w w3 := (hU2).trans u3 (fun _ _ h => h)
      obtain ⟨c_c0, c_c1, c_c2, c_c3, z_c0, z_c1, z_c2, z_c3⟩ := cells4 (hB_c3)
      have l_c3 := hB_c3.lt
      clear l_c2
      go_wp2_with fail
      refine ((HL _).out).mono ?_
      rintro e w4 ⟨rfl, u4⟩
      clear c_c0 c_c1 c_c2 c_c3 z_c0 z_c1 z_c2 z_c3
      have hB_c4 : Blk w4 (w.heap.size) #[.int .u64 A, .int .u64 B, .int .u64 P, .int .i64 S] 80 := (hB_c3).kept u4 id
      have hU4 : Upd Nowhere w w4 := (hU3).trans u4 (fun _ _ h => h)
      clear u3
      obtain ⟨c_c0, c_c1, c_c2, c_c3, z_c0, z_c1, z_c2, z_c3⟩ := cells4 (hB_c4)
      have l_c4 := hB_c4.lt
      clear l_c3
      go_wp2_with fail
      go_ret
      exact ⟨rfl, hU4⟩
    · have e9 : ((p : Int) == 0) = false := by simp; omega
      go_enter Try.func12, Try.ntmps12
      go_wp2_with fail
      refine ((H1 _).out).mono ?_
      rintro e w1 ⟨rfl, u1⟩
      have hB_c1 : Blk w1 (w.heap.size) #[.int .u64 A, .int .u64 B, .int .u64 P, .int .i64 S] 80 := (Blk.new _ _ _).kept u1 id
      have hU1 : Upd Nowhere w w1 := ((Upd.refl _ _).alloc _).trans u1 (fun _ _ h => h)
      obtain ⟨c_c0, c_c1, c_c2, c_c3, z_c0, z_c1, z_c2, z_c3⟩ := cells4 (hB_c1)
      have l_c1 := hB_c1.lt
      go_wp2_with fail
      go_quiet (fail)
      clear c_c0 c_c1 c_c2 c_c3 z_c0 z_c1 z_c2 z_c3
      have hB_c2 : Blk (w1.drewN nq) (w.heap.size) #[.int .u64 A, .int .u64 B, .int .u64 P, .int .i64 S] 80 := (hB_c1).drewN nq
      have hU2 : Upd Nowhere w (w1.drewN nq) := (hU1).drewN nq
      generalize w1.drewN nq = w2 at *
      clear u1
      obtain ⟨c_c0, c_c1, c_c2, c_c3, z_c0, z_c1, z_c2, z_c3⟩ := cells4 (hB_c2)
      have l_c2 := hB_c2.lt
      clear l_c1
      go_wp2_with fail
      refine ((H2 _).out).mono ?_
      rintro e w3 ⟨rfl, u3⟩
      clear c_c0 c_c1 c_c2 c_c3 z_c0 z_c1 z_c2 z_c3
      have hB_c3 : Blk w3 (w.heap.size) #[.int .u64 A, .int .u64 B, .int .u64 P, .int .i64 S] 80 := (hB_c2).kept u3 id
      have hU3 : Upd Nowhere w w3 := (hU2).trans u3 (fun _ _ h => h)
      obtain ⟨c_c0, c_c1, c_c2, c_c3, z_c0, z_c1, z_c2, z_c3⟩ := cells4 (hB_c3)
      have l_c3 := hB_c3.lt
      clear l_c2
      go_wp2_with fail
      refine ((HL _).out).mono ?_
      rintro e w4 ⟨rfl, u4⟩
      clear c_c0 c_c1 c_c2 c_c3 z_c0 z_c1 z_c2 z_c3
      have hB_c4 : Blk w4 (w.heap.size) #[.int .u64 A, .int .u64 B, .int .u64 P, .int .i64 S] 80 := (hB_c3).kept u4 id
      have hU4 : Upd Nowhere w w4 := (hU3).trans u4 (fun _ _ h => h)
      clear u3
      obtain ⟨c_c0, c_c1, c_c2, c_c3, z_c0, z_c1, z_c2, z_c3⟩ := cells4 (hB_c4)
      have l_c4 := hB_c4.lt
      clear l_c3
      go_wp2_with fail
      go_ret
      exact ⟨rfl, hU4⟩
  · have t1 : decide ((p : Int) < 50) = false := decide_eq_false (by omega)
    have e9 : ((p : Int) == 0) = false := by simp; omega
    have hev2 := ev_bounds h50 hev
    obtain ⟨hev0, hev3⟩ := hev2
    obtain ⟨f1, f2, f3, f4⟩ := fol_stays (x := x) (S := S) (by omega) (by omega)
    have hS : slo (S : Int) = S := by unfold Root.slo; omega
    obtain ⟨Z, hZ⟩ : ∃ Z, x * 2 ^ S = Z := ⟨_, rfl⟩
    have hrs : ∀ c, c < ev → rs A B P S Z c x = ((Z, if c + 1 = ev then 0 else c + 1), decide (c + 1 = ev)) := fun c hc => by
      have := rs_even (c := c) (ev := ev) h hx1 hx2 hp (gone_iff (by omega) (by omega) hev hc) (by omega) (by rw [hS]; exact f1) (by rw [hS]; exact f2)
      rw [hS, hZ] at this
      exact this
    have HS := fun c u (hc : c < ev) => Lib.hid (by have := step_any A B P Z c x S (by omega) (by omega) (by omega) u; rw [hrs c hc] at this; exact this)
    have c1 : ((x * 2 ^ S : Nat) : Int) = (x : Int) * 2 ^ S := by push_cast; rfl
    have e5 : IntKind.u64.wrap ((x : Int) * 2 ^ S) = (Z : Int) := by rw [← c1, hZ]; exact Bits.wrapN _ (by omega)
    have e6 : IntKind.u64.wrap (2 * (ev : Int)) = ((2 * ev : Nat) : Int) := by rw [IntKind.wrap_u64]; omega
    have HM := fun i (hi : 0 < i) => Lib.hid (mod_step hev0 hi)
    clear h k1 k2 k3 k4 k5 hx hlt hx1 hx2 hp hev f1 f2 f3 f4 hS hZ hrs c1 h50 hpt
    go_enter Try.func12, Try.ntmps12
    go_wp2_with fail
    refine ((H1 _).out).mono ?_
    rintro e w1 ⟨rfl, u1⟩
    have hB_c1 : Blk w1 (w.heap.size) #[.int .u64 A, .int .u64 B, .int .u64 P, .int .i64 S] 80 := (Blk.new _ _ _).kept u1 id
    have hU1 : Upd Nowhere w w1 := ((Upd.refl _ _).alloc _).trans u1 (fun _ _ h => h)
    obtain ⟨c_c0, c_c1, c_c2, c_c3, z_c0, z_c1, z_c2, z_c3⟩ := cells4 (hB_c1)
    have l_c1 := hB_c1.lt
    go_wp2_with fail
    go_quiet (fail)
    clear c_c0 c_c1 c_c2 c_c3 z_c0 z_c1 z_c2 z_c3
    have hB_c2 : Blk (w1.drewN nq) (w.heap.size) #[.int .u64 A, .int .u64 B, .int .u64 P, .int .i64 S] 80 := (hB_c1).drewN nq
    have hU2 : Upd Nowhere w (w1.drewN nq) := (hU1).drewN nq
    generalize w1.drewN nq = w2 at *
    clear u1
    obtain ⟨c_c0, c_c1, c_c2, c_c3, z_c0, z_c1, z_c2, z_c3⟩ := cells4 (hB_c2)
    have l_c2 := hB_c2.lt
    clear l_c1
    go_wp2_with fail
    refine ((H2 _).out).mono ?_
    rintro e w3 ⟨rfl, u3⟩
    clear c_c0 c_c1 c_c2 c_c3 z_c0 z_c1 z_c2 z_c3
    have hB_c3 : Blk w3 (w.heap.size) #[.int .u64 A, .int .u64 B, .int .u64 P, .int .i64 S] 80 := (hB_c2).kept u3 id
    have hU3 : Upd Nowhere w w3 := (hU2).trans u3 (fun _ _ h => h)
    obtain ⟨c_c0, c_c1, c_c2, c_c3, z_c0, z_c1, z_c2, z_c3⟩ := cells4 (hB_c3)
    have l_c3 := hB_c3.lt
    clear l_c2
    go_wp2_with fail
    refine ((H3 _).out).mono ?_
    rintro e w4 ⟨rfl, u4⟩
    clear c_c0 c_c1 c_c2 c_c3 z_c0 z_c1 z_c2 z_c3
    have hB_c4 : Blk w4 (w.heap.size) #[.int .u64 A, .int .u64 B, .int .u64 P, .int .i64 S] 80 := (hB_c3).kept u4 id
    have hU4 : Upd Nowhere w w4 := (hU3).trans u4 (fun _ _ h => h)
    clear u3
    obtain ⟨c_c0, c_c1, c_c2, c_c3, z_c0, z_c1, z_c2, z_c3⟩ := cells4 (hB_c4)
    have l_c4 := hB_c4.lt
    clear l_c3
    go_wp2_with fail
    clear e1 e2 e3 e4 e4' e5
    go_loopw [9] (fun iv wr => ∃ (i c : Nat), 1 ≤ i ∧ i ≤ 2 * ev + 1 ∧ iv = .int .u64 i ∧ (i - 1) % ev = c ∧ Blk wr (w.heap.size) #[.int .u64 A, .int .u64 B, .int .u64 P, .int .i64 S] 80 ∧ Blk wr (w4.heap.size) #[.int .u64 Z, .int .u64 c] 82 ∧ Upd Nowhere w wr) (fun iv _ => 2 * ev + 1 - (intOf iv).toNat)
    case atStart => exact ⟨1, 0, by omega, by omega, rfl, Nat.zero_mod _, hB_c4.alloc _, Blk.new _ _ _, hU4.alloc _⟩
    case round =>
      obtain ⟨i, c, hi1, hi2, rfl, hic, hB_c, hB_s, hU⟩ := hrel
      clear hB_c4 hU4 c_c0 c_c1 c_c2 c_c3 z_c0 z_c1 z_c2 z_c3
      by_cases hlt : i ≤ 2 * ev
      · have hc : c < ev := by rw [← hic]; exact Nat.mod_lt _ hev0
        obtain ⟨m1, m2⟩ := (HM i (by omega)).out
        rw [hic] at m1 m2
        have h1 := fun u => (HS c u hc).out
        simp only [m1, m2] at h1
        have H9 := fun u => Lib.hid (h1 u)
        obtain ⟨c', hc'⟩ : ∃ c', i % ev = c' := ⟨_, rfl⟩
        rw [hc'] at H9
        have e10 : (i : Int) % (ev : Int) = (c' : Int) := by rw [← hc']; rfl
        have e11 : ((c' : Int) == 0) = decide (c' = 0) := by rw [Bool.eq_iff_iff]; simp
        have e12 : ((ev : Int) == 0) = false := by simp; omega
        have e13 : (1 : Int) ≤ (ev : Int) := by omega
        have HC := Lib.hid hc'
        generalize decide (c' = 0) = g at *
        clear m1 m2 h1 hic hc hc' HS HM
        obtain ⟨c_c0, c_c1, c_c2, c_c3, z_c0, z_c1, z_c2, z_c3⟩ := cells4 (hB_c)
        obtain ⟨c_s0, c_s1, z_s0, z_s1⟩ := cells2 (hB_s)
        go_wp2_with fail
        refine ((H9 _).out).mono ?_
        rintro e w11 ⟨rfl, u11⟩
        clear c_c0 c_c1 c_c2 c_c3 z_c0 z_c1 z_c2 z_c3
        clear c_s0 c_s1 z_s0 z_s1
        have hB_c11 : Blk w11 (w.heap.size) #[.int .u64 A, .int .u64 B, .int .u64 P, .int .i64 S] 80 := (hB_c).kept u11 id
        have hB_s11 : Blk w11 (w4.heap.size) #[.int .u64 Z, .int .u64 c] 82 := (hB_s).kept u11 id
        have hU11 : Upd Nowhere w w11 := (hU).trans u11 (fun _ _ h => h)
        obtain ⟨c_c0, c_c1, c_c2, c_c3, z_c0, z_c1, z_c2, z_c3⟩ := cells4 (hB_c11)
        obtain ⟨c_s0, c_s1, z_s0, z_s1⟩ := cells2 (hB_s11)
        have l_c11 := hB_c11.lt
        have l_s11 := hB_s11.lt
        go_wp2_with fail
        go_roundw
        case rel => exact ⟨i + 1, c', by omega, by omega, by go_num, by rw [Nat.add_sub_cancel]; exact HC.out, ((hB_c11).far2 (g := w4.heap.size) (by first | (simp; done) | omega | (dsimp only; omega)) (.int .u64 Z) (.int .u64 c')).alloc _, ((hB_s11).put2 (.int .u64 Z) (.int .u64 c')).alloc _, ((hU11).put2 (g := w4.heap.size) (by first | (simp; done) | omega | (dsimp only; omega)) (.int .u64 Z) (.int .u64 c')).alloc _⟩
        case measure => simp [intOf]; omega
      · have hnl : ¬ (i ≤ 2 * ev) := hlt
        clear hic
        go_wp2_with fail
        refine ((HL _).out).mono ?_
        rintro e w9 ⟨rfl, u9⟩
        go_wp2_with fail
        go_ret
        exact ⟨rfl, hU.trans u9 (fun _ _ h => h)⟩
end Go.Proofs.Ytgmiggnlhcldlaa.Red
