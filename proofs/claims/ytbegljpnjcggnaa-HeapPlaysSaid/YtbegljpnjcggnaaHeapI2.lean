/- heappifo's heap of int: down. -/
import Derived.Test.YtbegljpnjcggnaaHeapI
import Derived.BigQuiet
namespace Go.Proofs.Ytbegljpnjcggnaa.HeapI
open Go.RowKit Go.Proofs BigFrame Heap
set_option maxHeartbeats 4000000
set_option maxRecDepth 1000000
theorem kid_none {l : List En} {k : Nat} (h : l.length ≤ 2 * k + 2) : kid l k = 2 * k + 1 := by
  rcases kid_or l k with h1 | ⟨_, h2⟩
  · exact h1
  · omega
theorem kid_yes {l : List En} {k : Nat} {a b : En} (hb : l[2 * k + 2]? = some b) (ha : l[2 * k + 1]? = some a) (h : ahd b a = true) : kid l k = 2 * k + 2 := by unfold kid; rw [hb, ha]; simp [h]
theorem kid_no {l : List En} {k : Nat} {a b : En} (hb : l[2 * k + 2]? = some b) (ha : l[2 * k + 1]? = some a) (h : ahd b a = false) : kid l k = 2 * k + 1 := by unfold kid; rw [hb, ha]; simp [h]
theorem down_any {w : World} {b g n c came room k : Nat} {l : List En} (h : HeapIn (Value.int .i64) TH TE w b (.slice (some ⟨g, 0, none⟩) n c) came room l) (hk : k ≤ n) :
    Calls Try.prog 23 #[.pointer (some ⟨b, 0, none⟩), .int .i64 k] w fun e w' => e = .returned (.tuple #[]) ∧ HeapIn (Value.int .i64) TH TE w' b (.slice (some ⟨g, 0, none⟩) n c) came room (dnL l k) ∧ Upd (fun q => q = g) w w' := by
  obtain ⟨R, hR⟩ : ∃ R, dnL l k = R := ⟨_, rfl⟩
  rw [hR]
  have HR := Lib.hid hR
  have hr2 := h.r2
  have hn : n ≤ 4096 := by have := h.le; have := h.len; omega
  have H0 := Lib.hid h
  clear hR h
  go_enter Try.func23, Try.ntmps23
  go_wp2_with fail
  go_loopw [1, 4] (fun v1 _ wr => ∃ (i : Nat) (m : List En), v1 = .int .i64 i ∧ i ≤ n ∧ Hid (dnL m i = R) ∧ HeapIn (Value.int .i64) TH TE wr b (.slice (some ⟨g, 0, none⟩) n c) came room m ∧ Upd (fun q => q = g) w wr) (fun v1 _ _ => n - (intOf v1).toNat)
  case atStart => exact ⟨k, l, rfl, hk, HR, H0.out, Upd.refl _ _⟩
  case round =>
    obtain ⟨i, m, rfl, hi, HRi, hH, hu⟩ := hrel
    obtain ⟨wB, rfl⟩ : ∃ x, x = wr := ⟨_, rfl⟩
    have H1 := Lib.hid hH
    have HU := Lib.hid hu
    obtain ⟨c0, c1, c2, z0, z1, z2⟩ := cells3 hH.blk
    have hlen := hH.len
    have Hln := Lib.hid hlen
    clear hH hu H0 HR
    obtain ⟨q, hq⟩ : ∃ q, 2 * i + 1 = q := ⟨_, rfl⟩
    have e1 : 2 * (i : Int) + 1 = (q : Int) := by omega
    have Hq := Lib.hid hq
    rcases Nat.lt_or_ge q n with hlt | hge
    · have d0 : decide (n ≤ q) = false := by simp; omega
      obtain ⟨x, hx⟩ : ∃ x, m[q]? = some x := ⟨m[q]'(by omega), by simp⟩
      obtain ⟨y, hy⟩ : ∃ y, m[i]? = some y := ⟨m[i]'(by omega), by simp⟩
      obtain ⟨x0, x1, x2⟩ := x
      obtain ⟨y0, y1, y2⟩ := y
      obtain ⟨k0, k1, k2, f0, f1, f2⟩ := H1.out.at hx
      have Hx := Lib.hid hx
      have Hy := Lib.hid hy
      obtain ⟨s, hs⟩ : ∃ s, q + 1 = s := ⟨_, rfl⟩
      have e2 : (q : Int) + 1 = (s : Int) := by omega
      have Hs := Lib.hid hs
      clear hx hy
      rcases Nat.lt_or_ge s n with hlt2 | hge2
      · have d1 : decide ((s : Int) < n) = true := by simp; omega
        have d2 : decide (s < n) = true := by simp; omega
        obtain ⟨z, hz⟩ : ∃ x, m[s]? = some x := ⟨m[s]'(by omega), by simp⟩
        obtain ⟨v0, v1, v2⟩ := z
        obtain ⟨j0, j1, j2, g0, g1, g2⟩ := H1.out.at hz
        have Hz := Lib.hid hz
        clear hz hlen hq hs
        have HA := fun u => Lib.hid (ahead_any (v0, v1, v2) (x0, x1, x2) u)
        go_wp2_with fail
        refine wp_region_tail 24 (by kernel_rfl) (by kernel_rfl) ?_
        simp only [List.take_succ_cons, List.take_zero, List.drop_succ_cons, List.drop_zero]
        repeat (go_big_quiet_step (fail))
        refine wpQuiet_nil ?_
        rintro _ ⟨nq, rfl⟩
        go_wp2_with fail
        refine (HA _).out.mono ?_
        rintro e wC ⟨rfl, hC⟩
        have huC : Upd Nowhere wB wC := ((Upd.refl _ _).drewN nq).trans hC (fun _ _ h => h)
        have H2 := Lib.hid (H1.out.old huC)
        have HU2 := Lib.hid (HU.out.trans huC (fun _ _ h => h.elim))
        clear hC huC HA c0 c1 c2 z0 z1 z2 k0 k1 k2 f0 f1 f2 j0 j1 j2 g0 g1 g2 H1 HU
        cases hab : ahd (v0, v1, v2) (x0, x1, x2) with
        | false =>
          have HK : Hid (kid m i = q) := Lib.hid (by have hs := Hs.out; have hq := Hq.out; subst hs; subst hq; exact kid_no Hz.out Hx.out hab)
          clear hab
          obtain ⟨c0, c1, c2, z0, z1, z2⟩ := cells3 H2.out.blk
          go_wp2_with fail
          refine Stage.out ?_
          obtain ⟨p0, p1, p2, f0, f1, f2⟩ := H2.out.at Hx.out
          obtain ⟨j0, j1, j2, g0, g1, g2⟩ := H2.out.at Hy.out
          have HA := fun u => Lib.hid (ahead_any (x0, x1, x2) (y0, y1, y2) u)
          go_wp2_with fail
          refine wp_region_tail 14 (by kernel_rfl) (by kernel_rfl) ?_
          simp only [List.take_succ_cons, List.take_zero, List.drop_succ_cons, List.drop_zero]
          repeat (go_big_quiet_step (fail))
          refine wpQuiet_nil ?_
          rintro _ ⟨nq2, rfl⟩
          go_wp2_with fail
          refine (HA _).out.mono ?_
          rintro e wD ⟨rfl, hD⟩
          have huD : Upd Nowhere wC wD := ((Upd.refl _ _).drewN nq2).trans hD (fun _ _ h => h)
          have H3 := Lib.hid (H2.out.old huD)
          have HU3 := Lib.hid (HU2.out.trans huD (fun _ _ h => h.elim))
          clear hD huD HA c0 c1 c2 z0 z1 z2 p0 p1 p2 f0 f1 f2 j0 j1 j2 g0 g1 g2 H2 HU2
          cases hab2 : ahd (x0, x1, x2) (y0, y1, y2) with
          | false =>
            have HAB := Lib.hid hab2
            clear hab2
            go_wp2_with fail
            refine Stage.out ?_
            go_wp2_with fail
            have e := HRi.out
            rw [dnL_stop HK.out Hx.out Hy.out HAB.out] at e
            subst e
            exact bodyPost_ret (results_none rfl _ _ _) rfl ⟨rfl, H3.out, HU3.out⟩
          | true =>
            have HAB := Lib.hid hab2
            clear hab2
            obtain ⟨c0, c1, c2, z0, z1, z2⟩ := cells3 H3.out.blk
            obtain ⟨p0, p1, p2, f0, f1, f2⟩ := H3.out.at Hx.out
            obtain ⟨j0, j1, j2, g0, g1, g2⟩ := H3.out.at Hy.out
            go_wp2_with fail
            refine Stage.out ?_
            go_wp2_with fail
            refine wp_region_tail 24 (by kernel_rfl) (by kernel_rfl) ?_
            simp only [List.take_succ_cons, List.take_zero, List.drop_succ_cons, List.drop_zero]
            repeat (go_big_quiet_step (fail))
            refine wpQuiet_nil ?_
            rintro _ ⟨nq3, rfl⟩
            go_wp2_with fail
            refine Stage.out ?_
            have HS := Lib.hid ((H3.out.old ((Upd.refl _ _).drewN nq3)).swap Hy.out Hx.out)
            have HUS := Lib.hid (Upd.entry (Upd.entry (HU3.out.drewN nq3) (fun _ => rfl) i (.int .u64 x0) (.int .u64 x1) (Value.int .i64 x2)) (fun _ => rfl) q (.int .u64 y0) (.int .u64 y1) (Value.int .i64 y2))
            clear c0 c1 c2 z0 z1 z2 p0 p1 p2 f0 f1 f2 j0 j1 j2 g0 g1 g2 e1 e2
            go_wp2_with fail
            go_roundw
            case rel =>
              have hsq := Hs.out
              have hqi := Hq.out
              have hlen := Hln.out
              refine ⟨q, _, rfl, by omega, Lib.hid ?_, HS.out, HUS.out⟩
              rw [← HRi.out, dnL_step (by omega) HK.out Hx.out Hy.out HAB.out]
            case measure => have hsq := Hs.out; have hqi := Hq.out; simp [intOf]; omega
        | true =>
          have HK : Hid (kid m i = s) := Lib.hid (by have hs := Hs.out; have hq := Hq.out; subst hs; subst hq; exact kid_yes Hz.out Hx.out hab)
          clear hab
          obtain ⟨c0, c1, c2, z0, z1, z2⟩ := cells3 H2.out.blk
          go_wp2_with fail
          refine Stage.out ?_
          obtain ⟨p0, p1, p2, f0, f1, f2⟩ := H2.out.at Hz.out
          obtain ⟨j0, j1, j2, g0, g1, g2⟩ := H2.out.at Hy.out
          have HA := fun u => Lib.hid (ahead_any (v0, v1, v2) (y0, y1, y2) u)
          go_wp2_with fail
          refine wp_region_tail 14 (by kernel_rfl) (by kernel_rfl) ?_
          simp only [List.take_succ_cons, List.take_zero, List.drop_succ_cons, List.drop_zero]
          repeat (go_big_quiet_step (fail))
          refine wpQuiet_nil ?_
          rintro _ ⟨nq2, rfl⟩
          go_wp2_with fail
          refine (HA _).out.mono ?_
          rintro e wD ⟨rfl, hD⟩
          have huD : Upd Nowhere wC wD := ((Upd.refl _ _).drewN nq2).trans hD (fun _ _ h => h)
          have H3 := Lib.hid (H2.out.old huD)
          have HU3 := Lib.hid (HU2.out.trans huD (fun _ _ h => h.elim))
          clear hD huD HA c0 c1 c2 z0 z1 z2 p0 p1 p2 f0 f1 f2 j0 j1 j2 g0 g1 g2 H2 HU2
          cases hab2 : ahd (v0, v1, v2) (y0, y1, y2) with
          | false =>
            have HAB := Lib.hid hab2
            clear hab2
            go_wp2_with fail
            refine Stage.out ?_
            go_wp2_with fail
            have e := HRi.out
            rw [dnL_stop HK.out Hz.out Hy.out HAB.out] at e
            subst e
            exact bodyPost_ret (results_none rfl _ _ _) rfl ⟨rfl, H3.out, HU3.out⟩
          | true =>
            have HAB := Lib.hid hab2
            clear hab2
            obtain ⟨c0, c1, c2, z0, z1, z2⟩ := cells3 H3.out.blk
            obtain ⟨p0, p1, p2, f0, f1, f2⟩ := H3.out.at Hz.out
            obtain ⟨j0, j1, j2, g0, g1, g2⟩ := H3.out.at Hy.out
            go_wp2_with fail
            refine Stage.out ?_
            go_wp2_with fail
            refine wp_region_tail 24 (by kernel_rfl) (by kernel_rfl) ?_
            simp only [List.take_succ_cons, List.take_zero, List.drop_succ_cons, List.drop_zero]
            repeat (go_big_quiet_step (fail))
            refine wpQuiet_nil ?_
            rintro _ ⟨nq3, rfl⟩
            go_wp2_with fail
            refine Stage.out ?_
            have HS := Lib.hid ((H3.out.old ((Upd.refl _ _).drewN nq3)).swap Hy.out Hz.out)
            have HUS := Lib.hid (Upd.entry (Upd.entry (HU3.out.drewN nq3) (fun _ => rfl) i (.int .u64 v0) (.int .u64 v1) (Value.int .i64 v2)) (fun _ => rfl) s (.int .u64 y0) (.int .u64 y1) (Value.int .i64 y2))
            clear c0 c1 c2 z0 z1 z2 p0 p1 p2 f0 f1 f2 j0 j1 j2 g0 g1 g2 e1 e2
            go_wp2_with fail
            go_roundw
            case rel =>
              have hsq := Hs.out
              have hqi := Hq.out
              have hlen := Hln.out
              refine ⟨s, _, rfl, by omega, Lib.hid ?_, HS.out, HUS.out⟩
              rw [← HRi.out, dnL_step (by omega) HK.out Hz.out Hy.out HAB.out]
            case measure => have hsq := Hs.out; have hqi := Hq.out; simp [intOf]; omega
      · have HK : Hid (kid m i = q) := Lib.hid (by rw [kid_none (by omega)]; omega)
        clear hlen hq hs
        have d1 : decide ((s : Int) < n) = false := by simp; omega
        have d2 : decide (s < n) = false := by simp; omega
        go_wp2_with fail
        go_quiet (fail)
        have H2 := Lib.hid (H1.out.old ((Upd.refl _ _).drewN nq))
        have HU2 := Lib.hid (HU.out.drewN nq)
        generalize wB.drewN nq = wC at *
        clear c0 c1 c2 z0 z1 z2 k0 k1 k2 f0 f1 f2 H1 HU
        obtain ⟨c0, c1, c2, z0, z1, z2⟩ := cells3 H2.out.blk
        obtain ⟨p0, p1, p2, f0, f1, f2⟩ := H2.out.at Hx.out
        obtain ⟨j0, j1, j2, g0, g1, g2⟩ := H2.out.at Hy.out
        have HA := fun u => Lib.hid (ahead_any (x0, x1, x2) (y0, y1, y2) u)
        go_wp2_with fail
        refine wp_region_tail 14 (by kernel_rfl) (by kernel_rfl) ?_
        simp only [List.take_succ_cons, List.take_zero, List.drop_succ_cons, List.drop_zero]
        repeat (go_big_quiet_step (fail))
        refine wpQuiet_nil ?_
        rintro _ ⟨nq2, rfl⟩
        go_wp2_with fail
        refine (HA _).out.mono ?_
        rintro e wD ⟨rfl, hD⟩
        have huD : Upd Nowhere wC wD := ((Upd.refl _ _).drewN nq2).trans hD (fun _ _ h => h)
        have H3 := Lib.hid (H2.out.old huD)
        have HU3 := Lib.hid (HU2.out.trans huD (fun _ _ h => h.elim))
        clear hD huD HA c0 c1 c2 z0 z1 z2 p0 p1 p2 f0 f1 f2 j0 j1 j2 g0 g1 g2 H2 HU2
        cases hab2 : ahd (x0, x1, x2) (y0, y1, y2) with
        | false =>
          have HAB := Lib.hid hab2
          clear hab2
          go_wp2_with fail
          refine Stage.out ?_
          go_wp2_with fail
          have e := HRi.out
          rw [dnL_stop HK.out Hx.out Hy.out HAB.out] at e
          subst e
          exact bodyPost_ret (results_none rfl _ _ _) rfl ⟨rfl, H3.out, HU3.out⟩
        | true =>
          have HAB := Lib.hid hab2
          clear hab2
          obtain ⟨c0, c1, c2, z0, z1, z2⟩ := cells3 H3.out.blk
          obtain ⟨p0, p1, p2, f0, f1, f2⟩ := H3.out.at Hx.out
          obtain ⟨j0, j1, j2, g0, g1, g2⟩ := H3.out.at Hy.out
          go_wp2_with fail
          refine Stage.out ?_
          go_wp2_with fail
          refine wp_region_tail 24 (by kernel_rfl) (by kernel_rfl) ?_
          simp only [List.take_succ_cons, List.take_zero, List.drop_succ_cons, List.drop_zero]
          repeat (go_big_quiet_step (fail))
          refine wpQuiet_nil ?_
          rintro _ ⟨nq3, rfl⟩
          go_wp2_with fail
          refine Stage.out ?_
          have HS := Lib.hid ((H3.out.old ((Upd.refl _ _).drewN nq3)).swap Hy.out Hx.out)
          have HUS := Lib.hid (Upd.entry (Upd.entry (HU3.out.drewN nq3) (fun _ => rfl) i (.int .u64 x0) (.int .u64 x1) (Value.int .i64 x2)) (fun _ => rfl) q (.int .u64 y0) (.int .u64 y1) (Value.int .i64 y2))
          clear c0 c1 c2 z0 z1 z2 p0 p1 p2 f0 f1 f2 j0 j1 j2 g0 g1 g2 e1 e2
          go_wp2_with fail
          go_roundw
          case rel =>
            have hsq := Hs.out
            have hqi := Hq.out
            have hlen := Hln.out
            refine ⟨q, _, rfl, by omega, Lib.hid ?_, HS.out, HUS.out⟩
            rw [← HRi.out, dnL_step (by omega) HK.out Hx.out Hy.out HAB.out]
          case measure => have hsq := Hs.out; have hqi := Hq.out; simp [intOf]; omega
    · have d0 : decide (n ≤ q) = true := by simp; omega
      go_wp2_with fail
      have e := HRi.out
      rw [dnL_none (by omega)] at e
      subst e
      exact bodyPost_ret (results_none rfl _ _ _) rfl ⟨rfl, H1.out, HU.out⟩
end Go.Proofs.Ytbegljpnjcggnaa.HeapI
