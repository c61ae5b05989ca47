/- HeapS, HeapS2, HeapS3, HeapS4, HeapS5, HeapS6, one behind the other. -/
import Derived.Test.YtjbaibnmbeabnaaGreatDoorProg
import Derived.Test.YtjbaibnmbeabnaaGreatDoorHeapCore
import Derived.Test.YtjbaibnmbeabnaaGreatDoorMix2
import Derived.Lib.Hide
import Derived.BigQuiet
import Derived.Deep.RegionLaw
import Derived.Test.YtjbaibnmbeabnaaGreatDoorHeapCore2
import Derived.Test.YtjbaibnmbeabnaaGreatDoorCalPlain
namespace Go.Proofs.YtjbaibnmbeabnaaGreatDoor.HeapS
open Go.RowKit Go.Proofs BigFrame Heap
abbrev TH : TypeId := 117
abbrev TE : TypeId := 123
abbrev En := Ent ByteArray
/-- An entry, as a value. -/
abbrev V (x : En) : Value := .agg #[.int .u64 x.1, .int .u64 x.2.1, Value.string x.2.2]
set_option maxHeartbeats 1000000
theorem ahead_any (x y : En) (w : World) :
    Calls Tryz.prog 85 #[V x, V y] w fun e w' => e = .returned (.bool (ahd x y)) ∧ Upd Nowhere w w' := by
  obtain ⟨x0, x1, x2⟩ := x
  obtain ⟨y0, y1, y2⟩ := y
  have hU : Upd Nowhere w ((w.alloc (.cells #[.int .u64 x0, .int .u64 x1, Value.string x2] TE)).alloc (.cells #[.int .u64 y0, .int .u64 y1, Value.string y2] TE)) := ((Upd.refl _ _).alloc _).alloc _
  by_cases h1 : x0 < y0
  · have d1 : decide (x0 < y0) = true := decide_eq_true h1
    have e : ahd (x0, x1, x2) (y0, y1, y2) = true := by rw [ahd_iff]; exact .inl h1
    rw [e]
    go_enter Tryz.func85, Tryz.ntmps85
    go_wp2_with fail
    go_ret
    exact ⟨rfl, hU⟩
  · have d1 : decide (x0 < y0) = false := decide_eq_false h1
    by_cases h2 : x0 = y0
    · have d2 : decide (x0 = y0) = true := decide_eq_true h2
      have d3 : ((x0 : Int) == y0) = true := by simp [h2]
      have e : ahd (x0, x1, x2) (y0, y1, y2) = decide (x1 < y1) := by unfold ahd; simp [h2]
      rw [e]
      have H2 := Lib.hid h2
      clear h2
      go_enter Tryz.func85, Tryz.ntmps85
      go_wp2_with fail
      go_ret
      exact ⟨rfl, hU⟩
    · have d2 : decide (x0 = y0) = false := decide_eq_false h2
      have d3 : ((x0 : Int) == y0) = false := by simp; omega
      have e : ahd (x0, x1, x2) (y0, y1, y2) = false := by rw [ahd_not]; simp; omega
      rw [e]
      go_enter Tryz.func85, Tryz.ntmps85
      go_wp2_with fail
      go_ret
      exact ⟨rfl, hU⟩
theorem up_any {w : World} {b g n c came room k : Nat} {l : List En} (h : HeapIn (Value.string) TH TE w b (.slice (some ⟨g, 0, none⟩) n c) came room l) (hk : k < n) :
    Calls Tryz.prog 72 #[.pointer (some ⟨b, 0, none⟩), .int .i64 k] w fun e w' => e = .returned (.tuple #[]) ∧ HeapIn (Value.string) TH TE w' b (.slice (some ⟨g, 0, none⟩) n c) came room (upL l k) ∧ Upd (fun q => q = g) w w' := by
  obtain ⟨R, hR⟩ : ∃ R, upL l k = R := ⟨_, rfl⟩
  rw [hR]
  have HR := Lib.hid hR
  have hr2 := h.r2
  have hn : n ≤ 4096 := by have := h.le; have := h.len; omega
  have H0 := Lib.hid h
  clear hR h
  go_enter Tryz.func72, Tryz.ntmps72
  go_wp2_with fail
  go_loopw [1, 4] (fun v1 _ wr => ∃ (i : Nat) (m : List En), v1 = .int .i64 i ∧ i < n ∧ Hid (upL m i = R) ∧ HeapIn (Value.string) TH TE wr b (.slice (some ⟨g, 0, none⟩) n c) came room m ∧ Upd (fun q => q = g) w wr) (fun v1 _ _ => (intOf v1).toNat)
  case atStart => exact ⟨k, l, rfl, hk, HR, H0.out, Upd.refl _ _⟩
  case round =>
    obtain ⟨i, m, rfl, hi, HRi, hH, hu⟩ := hrel
    obtain ⟨wB, rfl⟩ : ∃ x, x = wr := ⟨_, rfl⟩
    have H1 := Lib.hid hH
    have HU := Lib.hid hu
    obtain ⟨c0, c1, c2, z0, z1, z2⟩ := cells3 hH.blk
    have hlen := hH.len
    clear hH hu H0 HR
    rcases Nat.eq_zero_or_pos i with hi0 | hpos
    · subst hi0
      go_wp2_with fail
      go_end0
      have e := HRi.out
      rw [upL_zero] at e
      subst e
      exact ⟨rfl, H1.out, HU.out⟩
    · have hI : (i : Int) > 0 := by omega
      obtain ⟨p, hp⟩ : ∃ p, (i - 1) / 2 = p := ⟨_, rfl⟩
      have hp2 : p < i := by omega
      have hP : ((i : Int) - 1).tdiv 2 = (p : Int) := by rw [show (i : Int) - 1 = ((i - 1 : Nat) : Int) by omega, ← hp]; rfl
      have Hp := Lib.hid hp
      clear hp
      obtain ⟨x, hx⟩ : ∃ x, m[i]? = some x := ⟨m[i]'(by omega), by simp⟩
      obtain ⟨y, hy⟩ : ∃ y, m[p]? = some y := ⟨m[p]'(by omega), by simp⟩
      obtain ⟨x0, x1, x2⟩ := x
      obtain ⟨y0, y1, y2⟩ := y
      obtain ⟨k0, k1, k2, f0, f1, f2⟩ := H1.out.at hx
      obtain ⟨j0, j1, j2, g0, g1, g2⟩ := H1.out.at hy
      have Hx := Lib.hid hx
      have Hy := Lib.hid hy
      clear hx hy hlen
      have HA := fun u => Lib.hid (ahead_any (x0, x1, x2) (y0, y1, y2) u)
      go_wp2_with fail
      refine wp_region_tail 14 (by kernel_rfl) (by kernel_rfl) ?_
      simp only [List.take_succ_cons, List.take_zero, List.drop_succ_cons, List.drop_zero]
      repeat (go_big_quiet_step (fail))
      refine wpQuiet_nil ?_
      rintro _ ⟨nq, rfl⟩
      go_wp2_with fail
      refine (HA _).out.mono ?_
      rintro e wC ⟨rfl, hC⟩
      have huC : Upd Nowhere wB wC := ((Upd.refl _ _).drewN nq).trans hC (fun _ _ h => h)
      have H2 := Lib.hid (H1.out.old huC)
      have HU2 := Lib.hid (HU.out.trans huC (fun _ _ h => h.elim))
      clear hC huC HA c0 c1 c2 z0 z1 z2 k0 k1 k2 f0 f1 f2 j0 j1 j2 g0 g1 g2
      obtain ⟨c0, c1, c2, z0, z1, z2⟩ := cells3 H2.out.blk
      obtain ⟨k0, k1, k2, f0, f1, f2⟩ := H2.out.at Hx.out
      obtain ⟨j0, j1, j2, g0, g1, g2⟩ := H2.out.at Hy.out
      cases hab : ahd (x0, x1, x2) (y0, y1, y2) with
      | false =>
        have HAB := Lib.hid hab
        clear hab
        go_wp2_with fail
        refine Stage.out ?_
        go_wp2_with fail
        have e := HRi.out
        rw [upL_stop Hx.out (by rw [Hp.out]; exact Hy.out) HAB.out] at e
        subst e
        exact bodyPost_ret (results_none rfl _ _ _) rfl ⟨rfl, H2.out, HU2.out⟩
      | true =>
        have HAB := Lib.hid hab
        clear hab
        go_wp2_with fail
        refine Stage.out ?_
        go_wp2_with fail
        refine wp_region_tail 24 (by kernel_rfl) (by kernel_rfl) ?_
        simp only [List.take_succ_cons, List.take_zero, List.drop_succ_cons, List.drop_zero]
        repeat (go_big_quiet_step (fail))
        refine wpQuiet_nil ?_
        rintro _ ⟨nq2, rfl⟩
        go_wp2_with fail
        refine Stage.out ?_
        have hS := (H2.out.old ((Upd.refl _ _).drewN nq2)).swap Hx.out Hy.out
        have hUS := Upd.entry (Upd.entry (HU2.out.drewN nq2) (fun _ => rfl) i (.int .u64 y0) (.int .u64 y1) (Value.string y2)) (fun _ => rfl) p (.int .u64 x0) (.int .u64 x1) (Value.string x2)
        go_wp2_with fail
        go_roundw
        case rel =>
          refine ⟨p, _, rfl, by omega, Lib.hid ?_, hS, hUS⟩
          rw [← HRi.out, upL_step hpos Hx.out (by rw [Hp.out]; exact Hy.out) HAB.out, Hp.out]
        case measure => simp [intOf]; omega
end Go.Proofs.YtjbaibnmbeabnaaGreatDoor.HeapS
namespace Go.Proofs.YtjbaibnmbeabnaaGreatDoor.HeapS
open Go.RowKit Go.Proofs BigFrame Heap
set_option maxHeartbeats 4000000
set_option maxRecDepth 1000000
theorem kid_none {l : List En} {k : Nat} (h : l.length ≤ 2 * k + 2) : kid l k = 2 * k + 1 := by
  rcases kid_or l k with h1 | ⟨_, h2⟩
  · exact h1
  · omega
theorem kid_yes {l : List En} {k : Nat} {a b : En} (hb : l[2 * k + 2]? = some b) (ha : l[2 * k + 1]? = some a) (h : ahd b a = true) : kid l k = 2 * k + 2 := by unfold kid; rw [hb, ha]; simp [h]
theorem kid_no {l : List En} {k : Nat} {a b : En} (hb : l[2 * k + 2]? = some b) (ha : l[2 * k + 1]? = some a) (h : ahd b a = false) : kid l k = 2 * k + 1 := by unfold kid; rw [hb, ha]; simp [h]
theorem down_any {w : World} {b g n c came room k : Nat} {l : List En} (h : HeapIn (Value.string) TH TE w b (.slice (some ⟨g, 0, none⟩) n c) came room l) (hk : k ≤ n) :
    Calls Tryz.prog 76 #[.pointer (some ⟨b, 0, none⟩), .int .i64 k] w fun e w' => e = .returned (.tuple #[]) ∧ HeapIn (Value.string) TH TE w' b (.slice (some ⟨g, 0, none⟩) n c) came room (dnL l k) ∧ Upd (fun q => q = g) w w' := by
  obtain ⟨R, hR⟩ : ∃ R, dnL l k = R := ⟨_, rfl⟩
  rw [hR]
  have HR := Lib.hid hR
  have hr2 := h.r2
  have hn : n ≤ 4096 := by have := h.le; have := h.len; omega
  have H0 := Lib.hid h
  clear hR h
  go_enter Tryz.func76, Tryz.ntmps76
  go_wp2_with fail
  go_loopw [1, 4] (fun v1 _ wr => ∃ (i : Nat) (m : List En), v1 = .int .i64 i ∧ i ≤ n ∧ Hid (dnL m i = R) ∧ HeapIn (Value.string) TH TE wr b (.slice (some ⟨g, 0, none⟩) n c) came room m ∧ Upd (fun q => q = g) w wr) (fun v1 _ _ => n - (intOf v1).toNat)
  case atStart => exact ⟨k, l, rfl, hk, HR, H0.out, Upd.refl _ _⟩
  case round =>
    obtain ⟨i, m, rfl, hi, HRi, hH, hu⟩ := hrel
    obtain ⟨wB, rfl⟩ : ∃ x, x = wr := ⟨_, rfl⟩
    have H1 := Lib.hid hH
    have HU := Lib.hid hu
    obtain ⟨c0, c1, c2, z0, z1, z2⟩ := cells3 hH.blk
    have hlen := hH.len
    have Hln := Lib.hid hlen
    clear hH hu H0 HR
    obtain ⟨q, hq⟩ : ∃ q, 2 * i + 1 = q := ⟨_, rfl⟩
    have e1 : 2 * (i : Int) + 1 = (q : Int) := by omega
    have Hq := Lib.hid hq
    rcases Nat.lt_or_ge q n with hlt | hge
    · have d0 : decide (n ≤ q) = false := by simp; omega
      obtain ⟨x, hx⟩ : ∃ x, m[q]? = some x := ⟨m[q]'(by omega), by simp⟩
      obtain ⟨y, hy⟩ : ∃ y, m[i]? = some y := ⟨m[i]'(by omega), by simp⟩
      obtain ⟨x0, x1, x2⟩ := x
      obtain ⟨y0, y1, y2⟩ := y
      obtain ⟨k0, k1, k2, f0, f1, f2⟩ := H1.out.at hx
      have Hx := Lib.hid hx
      have Hy := Lib.hid hy
      obtain ⟨s, hs⟩ : ∃ s, q + 1 = s := ⟨_, rfl⟩
      have e2 : (q : Int) + 1 = (s : Int) := by omega
      have Hs := Lib.hid hs
      clear hx hy
      rcases Nat.lt_or_ge s n with hlt2 | hge2
      · have d1 : decide ((s : Int) < n) = true := by simp; omega
        have d2 : decide (s < n) = true := by simp; omega
        obtain ⟨z, hz⟩ : ∃ x, m[s]? = some x := ⟨m[s]'(by omega), by simp⟩
        obtain ⟨v0, v1, v2⟩ := z
        obtain ⟨j0, j1, j2, g0, g1, g2⟩ := H1.out.at hz
        have Hz := Lib.hid hz
        clear hz hlen hq hs
        have HA := fun u => Lib.hid (ahead_any (v0, v1, v2) (x0, x1, x2) u)
        go_wp2_with fail
        refine wp_region_tail 24 (by kernel_rfl) (by kernel_rfl) ?_
        simp only [List.take_succ_cons, List.take_zero, List.drop_succ_cons, List.drop_zero]
        repeat (go_big_quiet_step (fail))
        refine wpQuiet_nil ?_
        rintro _ ⟨nq, rfl⟩
        go_wp2_with fail
        refine (HA _).out.mono ?_
        rintro e wC ⟨rfl, hC⟩
        have huC : Upd Nowhere wB wC := ((Upd.refl _ _).drewN nq).trans hC (fun _ _ h => h)
        have H2 := Lib.hid (H1.out.old huC)
        have HU2 := Lib.hid (HU.out.trans huC (fun _ _ h => h.elim))
        clear hC huC HA c0 c1 c2 z0 z1 z2 k0 k1 k2 f0 f1 f2 j0 j1 j2 g0 g1 g2 H1 HU
        cases hab : ahd (v0, v1, v2) (x0, x1, x2) with
        | false =>
          have HK : Hid (kid m i = q) := Lib.hid (by have hs := Hs.out; have hq := Hq.out; subst hs; subst hq; exact kid_no Hz.out Hx.out hab)
          clear hab
          obtain ⟨c0, c1, c2, z0, z1, z2⟩ := cells3 H2.out.blk
          go_wp2_with fail
          refine Stage.out ?_
          obtain ⟨p0, p1, p2, f0, f1, f2⟩ := H2.out.at Hx.out
          obtain ⟨j0, j1, j2, g0, g1, g2⟩ := H2.out.at Hy.out
          have HA := fun u => Lib.hid (ahead_any (x0, x1, x2) (y0, y1, y2) u)
          go_wp2_with fail
          refine wp_region_tail 14 (by kernel_rfl) (by kernel_rfl) ?_
          simp only [List.take_succ_cons, List.take_zero, List.drop_succ_cons, List.drop_zero]
          repeat (go_big_quiet_step (fail))
          refine wpQuiet_nil ?_
          rintro _ ⟨nq2, rfl⟩
          go_wp2_with fail
          refine (HA _).out.mono ?_
          rintro e wD ⟨rfl, hD⟩
          have huD : Upd Nowhere wC wD := ((Upd.refl _ _).drewN nq2).trans hD (fun _ _ h => h)
          have H3 := Lib.hid (H2.out.old huD)
          have HU3 := Lib.hid (HU2.out.trans huD (fun _ _ h => h.elim))
          clear hD huD HA c0 c1 c2 z0 z1 z2 p0 p1 p2 f0 f1 f2 j0 j1 j2 g0 g1 g2 H2 HU2
          cases hab2 : ahd (x0, x1, x2) (y0, y1, y2) with
          | false =>
            have HAB := Lib.hid hab2
            clear hab2
            go_wp2_with fail
            refine Stage.out ?_
            go_wp2_with fail
            have e := HRi.out
            rw [dnL_stop HK.out Hx.out Hy.out HAB.out] at e
            subst e
            exact bodyPost_ret (results_none rfl _ _ _) rfl ⟨rfl, H3.out, HU3.out⟩
          | true =>
            have HAB := Lib.hid hab2
            clear hab2
            obtain ⟨c0, c1, c2, z0, z1, z2⟩ := cells3 H3.out.blk
            obtain ⟨p0, p1, p2, f0, f1, f2⟩ := H3.out.at Hx.out
            obtain ⟨j0, j1, j2, g0, g1, g2⟩ := H3.out.at Hy.out
            go_wp2_with fail
            refine Stage.out ?_
            go_wp2_with fail
            refine wp_region_tail 24 (by kernel_rfl) (by kernel_rfl) ?_
            simp only [List.take_succ_cons, List.take_zero, List.drop_succ_cons, List.drop_zero]
            repeat (go_big_quiet_step (fail))
            refine wpQuiet_nil ?_
            rintro _ ⟨nq3, rfl⟩
            go_wp2_with fail
            refine Stage.out ?_
            have HS := Lib.hid ((H3.out.old ((Upd.refl _ _).drewN nq3)).swap Hy.out Hx.out)
            have HUS := Lib.hid (Upd.entry (Upd.entry (HU3.out.drewN nq3) (fun _ => rfl) i (.int .u64 x0) (.int .u64 x1) (Value.string x2)) (fun _ => rfl) q (.int .u64 y0) (.int .u64 y1) (Value.string y2))
            clear c0 c1 c2 z0 z1 z2 p0 p1 p2 f0 f1 f2 j0 j1 j2 g0 g1 g2 e1 e2
            go_wp2_with fail
            go_roundw
            case rel =>
              have hsq := Hs.out
              have hqi := Hq.out
              have hlen := Hln.out
              refine ⟨q, _, rfl, by omega, Lib.hid ?_, HS.out, HUS.out⟩
              rw [← HRi.out, dnL_step (by omega) HK.out Hx.out Hy.out HAB.out]
            case measure => have hsq := Hs.out; have hqi := Hq.out; simp [intOf]; omega
        | true =>
          have HK : Hid (kid m i = s) := Lib.hid (by have hs := Hs.out; have hq := Hq.out; subst hs; subst hq; exact kid_yes Hz.out Hx.out hab)
          clear hab
          obtain ⟨c0, c1, c2, z0, z1, z2⟩ := cells3 H2.out.blk
          go_wp2_with fail
          refine Stage.out ?_
          obtain ⟨p0, p1, p2, f0, f1, f2⟩ := H2.out.at Hz.out
          obtain ⟨j0, j1, j2, g0, g1, g2⟩ := H2.out.at Hy.out
          have HA := fun u => Lib.hid (ahead_any (v0, v1, v2) (y0, y1, y2) u)
          go_wp2_with fail
          refine wp_region_tail 14 (by kernel_rfl) (by kernel_rfl) ?_
          simp only [List.take_succ_cons, List.take_zero, List.drop_succ_cons, List.drop_zero]
          repeat (go_big_quiet_step (fail))
          refine wpQuiet_nil ?_
          rintro _ ⟨nq2, rfl⟩
          go_wp2_with fail
          refine (HA _).out.mono ?_
          rintro e wD ⟨rfl, hD⟩
          have huD : Upd Nowhere wC wD := ((Upd.refl _ _).drewN nq2).trans hD (fun _ _ h => h)
          have H3 := Lib.hid (H2.out.old huD)
          have HU3 := Lib.hid (HU2.out.trans huD (fun _ _ h => h.elim))
          clear hD huD HA c0 c1 c2 z0 z1 z2 p0 p1 p2 f0 f1 f2 j0 j1 j2 g0 g1 g2 H2 HU2
          cases hab2 : ahd (v0, v1, v2) (y0, y1, y2) with
          | false =>
            have HAB := Lib.hid hab2
            clear hab2
            go_wp2_with fail
            refine Stage.out ?_
            go_wp2_with fail
            have e := HRi.out
            rw [dnL_stop HK.out Hz.out Hy.out HAB.out] at e
            subst e
            exact bodyPost_ret (results_none rfl _ _ _) rfl ⟨rfl, H3.out, HU3.out⟩
          | true =>
            have HAB := Lib.hid hab2
            clear hab2
            obtain ⟨c0, c1, c2, z0, z1, z2⟩ := cells3 H3.out.blk
            obtain ⟨p0, p1, p2, f0, f1, f2⟩ := H3.out.at Hz.out
            obtain ⟨j0, j1, j2, g0, g1, g2⟩ := H3.out.at Hy.out
            go_wp2_with fail
            refine Stage.out ?_
            go_wp2_with fail
            refine wp_region_tail 24 (by kernel_rfl) (by kernel_rfl) ?_
            simp only [List.take_succ_cons, List.take_zero, List.drop_succ_cons, List.drop_zero]
            repeat (go_big_quiet_step (fail))
            refine wpQuiet_nil ?_
            rintro _ ⟨nq3, rfl⟩
            go_wp2_with fail
            refine Stage.out ?_
            have HS := Lib.hid ((H3.out.old ((Upd.refl _ _).drewN nq3)).swap Hy.out Hz.out)
            have HUS := Lib.hid (Upd.entry (Upd.entry (HU3.out.drewN nq3) (fun _ => rfl) i (.int .u64 v0) (.int .u64 v1) (Value.string v2)) (fun _ => rfl) s (.int .u64 y0) (.int .u64 y1) (Value.string y2))
            clear c0 c1 c2 z0 z1 z2 p0 p1 p2 f0 f1 f2 j0 j1 j2 g0 g1 g2 e1 e2
            go_wp2_with fail
            go_roundw
            case rel =>
              have hsq := Hs.out
              have hqi := Hq.out
              have hlen := Hln.out
              refine ⟨s, _, rfl, by omega, Lib.hid ?_, HS.out, HUS.out⟩
              rw [← HRi.out, dnL_step (by omega) HK.out Hz.out Hy.out HAB.out]
            case measure => have hsq := Hs.out; have hqi := Hq.out; simp [intOf]; omega
      · have HK : Hid (kid m i = q) := Lib.hid (by rw [kid_none (by omega)]; omega)
        clear hlen hq hs
        have d1 : decide ((s : Int) < n) = false := by simp; omega
        have d2 : decide (s < n) = false := by simp; omega
        go_wp2_with fail
        go_quiet (fail)
        have H2 := Lib.hid (H1.out.old ((Upd.refl _ _).drewN nq))
        have HU2 := Lib.hid (HU.out.drewN nq)
        generalize wB.drewN nq = wC at *
        clear c0 c1 c2 z0 z1 z2 k0 k1 k2 f0 f1 f2 H1 HU
        obtain ⟨c0, c1, c2, z0, z1, z2⟩ := cells3 H2.out.blk
        obtain ⟨p0, p1, p2, f0, f1, f2⟩ := H2.out.at Hx.out
        obtain ⟨j0, j1, j2, g0, g1, g2⟩ := H2.out.at Hy.out
        have HA := fun u => Lib.hid (ahead_any (x0, x1, x2) (y0, y1, y2) u)
        go_wp2_with fail
        refine wp_region_tail 14 (by kernel_rfl) (by kernel_rfl) ?_
        simp only [List.take_succ_cons, List.take_zero, List.drop_succ_cons, List.drop_zero]
        repeat (go_big_quiet_step (fail))
        refine wpQuiet_nil ?_
        rintro _ ⟨nq2, rfl⟩
        go_wp2_with fail
        refine (HA _).out.mono ?_
        rintro e wD ⟨rfl, hD⟩
        have huD : Upd Nowhere wC wD := ((Upd.refl _ _).drewN nq2).trans hD (fun _ _ h => h)
        have H3 := Lib.hid (H2.out.old huD)
        have HU3 := Lib.hid (HU2.out.trans huD (fun _ _ h => h.elim))
        clear hD huD HA c0 c1 c2 z0 z1 z2 p0 p1 p2 f0 f1 f2 j0 j1 j2 g0 g1 g2 H2 HU2
        cases hab2 : ahd (x0, x1, x2) (y0, y1, y2) with
        | false =>
          have HAB := Lib.hid hab2
          clear hab2
          go_wp2_with fail
          refine Stage.out ?_
          go_wp2_with fail
          have e := HRi.out
          rw [dnL_stop HK.out Hx.out Hy.out HAB.out] at e
          subst e
          exact bodyPost_ret (results_none rfl _ _ _) rfl ⟨rfl, H3.out, HU3.out⟩
        | true =>
          have HAB := Lib.hid hab2
          clear hab2
          obtain ⟨c0, c1, c2, z0, z1, z2⟩ := cells3 H3.out.blk
          obtain ⟨p0, p1, p2, f0, f1, f2⟩ := H3.out.at Hx.out
          obtain ⟨j0, j1, j2, g0, g1, g2⟩ := H3.out.at Hy.out
          go_wp2_with fail
          refine Stage.out ?_
          go_wp2_with fail
          refine wp_region_tail 24 (by kernel_rfl) (by kernel_rfl) ?_
          simp only [List.take_succ_cons, List.take_zero, List.drop_succ_cons, List.drop_zero]
          repeat (go_big_quiet_step (fail))
          refine wpQuiet_nil ?_
          rintro _ ⟨nq3, rfl⟩
          go_wp2_with fail
          refine Stage.out ?_
          have HS := Lib.hid ((H3.out.old ((Upd.refl _ _).drewN nq3)).swap Hy.out Hx.out)
          have HUS := Lib.hid (Upd.entry (Upd.entry (HU3.out.drewN nq3) (fun _ => rfl) i (.int .u64 x0) (.int .u64 x1) (Value.string x2)) (fun _ => rfl) q (.int .u64 y0) (.int .u64 y1) (Value.string y2))
          clear c0 c1 c2 z0 z1 z2 p0 p1 p2 f0 f1 f2 j0 j1 j2 g0 g1 g2 e1 e2
          go_wp2_with fail
          go_roundw
          case rel =>
            have hsq := Hs.out
            have hqi := Hq.out
            have hlen := Hln.out
            refine ⟨q, _, rfl, by omega, Lib.hid ?_, HS.out, HUS.out⟩
            rw [← HRi.out, dnL_step (by omega) HK.out Hx.out Hy.out HAB.out]
          case measure => have hsq := Hs.out; have hqi := Hq.out; simp [intOf]; omega
    · have d0 : decide (n ≤ q) = true := by simp; omega
      go_wp2_with fail
      have e := HRi.out
      rw [dnL_none (by omega)] at e
      subst e
      exact bodyPost_ret (results_none rfl _ _ _) rfl ⟨rfl, H1.out, HU.out⟩
end Go.Proofs.YtjbaibnmbeabnaaGreatDoor.HeapS
namespace Go.Proofs.YtjbaibnmbeabnaaGreatDoor.HeapS
open Go.RowKit Go.Proofs BigFrame Heap
set_option maxHeartbeats 4000000
set_option maxRecDepth 1000000
abbrev Z : Value := .agg #[.int .u64 0, .int .u64 0, Value.string ⟨#[]⟩]
theorem infoE : (Tryz.prog.info? TE).map (fun i => (i.zero, i.size, i.bytes)) = some (some Z, 3, 32) := by kernel_rfl
/-- One more, in a row that took it. -/
theorem row_push {w : World} {v : Value} {l : List En} {n : Nat} (e : En) (hn : l.length + 1 = n) (h : w.ownsRow 0 TE 3 v n (ents (Value.string) l ++ [.int .u64 e.1, .int .u64 e.2.1, Value.string e.2.2])) : Row (Value.string) TE w v (l ++ [e]) := by
  have e1 : (l ++ [e]).length = n := by simpa using hn
  have e2 : ents (Value.string) (l ++ [e]) = ents (Value.string) l ++ [.int .u64 e.1, .int .u64 e.2.1, Value.string e.2.2] := by rw [ents_append]; rfl
  unfold Row
  rw [e1, e2]
  exact h
theorem form6 {w : World} {v : Value} {n : Nat} {xs : List Value} (h : w.ownsRow 0 TE 3 v (n + 1) xs) : ∃ g c, v = .slice (some ⟨g, 0, none⟩) (n + 1) c := by
  rcases h.2 with ⟨_, h0⟩ | ⟨g, c, cur, rfl, _⟩
  · omega
  · exact ⟨g, c, rfl⟩
/-- What stands once an entry was laid behind the others. -/
structure Pushed (w0 w : World) (b : Nat) (v v' : Value) (came room : Nat) (l : List En) (e : En) : Prop where
  blk : Blk w b #[v, .int .u64 came, .int .i64 room] TH
  row : Row (Value.string) TE w v' (l ++ [e])
  off : v'.ownBlock ≠ some b
  own : OwnOrNew w0 v v'
  upd : Upd (HeapOf b v) w0 w
theorem push_facts {w1 wx w6 : World} {b came room n : Nat} {v v6 : Value} {l : List En} (H : HeapIn (Value.string) TH TE w1 b v came room l) (e : En)
    (hown : w6.ownsRow 0 TE 3 v6 (n + 1) (ents (Value.string) l ++ [.int .u64 e.1, .int .u64 e.2.1, Value.string e.2.2])) (hu : Upd (fun k => v.ownBlock = some k) wx w6) (hn : OwnOrNew wx v v6) (hx : Upd Nowhere w1 wx) (hl : l.length = n) :
    Pushed w1 w6 b v v6 came room l e := by
  have hs := hx.size
  refine ⟨(H.blk.kept hx id).kept hu H.off, row_push e (by omega) hown, fun h => ?_, fun k hk => ?_, (hx.any _).trans hu (fun k _ hk => .inr hk)⟩
  · rcases hn b h with h1 | h1
    · exact H.off h1
    · have := H.blk.lt; omega
  · rcases hn k hk with h1 | h1
    · exact .inl h1
    · exact .inr (by omega)
theorem Pushed.heap {w0 w : World} {b came room : Nat} {v v' : Value} {l : List En} {e : En} (P : Pushed w0 w b v v' came room l e) (hl : l.length < room) (hr : room ≤ 4096) (d : Nat) :
    HeapIn (Value.string) TH TE ((w.setCell ⟨b, 0, none⟩ v').setCell ⟨b, 1, none⟩ (.int .u64 d)) b v' d room (l ++ [e]) := by
  have hu : Upd (fun k => k = b) w ((w.setCell ⟨b, 0, none⟩ v').setCell ⟨b, 1, none⟩ (.int .u64 d)) := ((Upd.refl _ _).setCell (a := ⟨b, 0, none⟩) (S := fun k => k = b) (fun _ => rfl) _).setCell (a := ⟨b, 1, none⟩) (fun _ => rfl) _
  exact ⟨by simpa using (P.blk.set 0 v').set 1 (.int .u64 d), ownsRow_upd P.row hu (fun k hk e => P.off (by rw [hk, e])), by simp; omega, by omega, hr, P.off⟩
theorem push_room {w : World} {b came room : Nat} {v : Value} {l : List En} (h : HeapIn (Value.string) TH TE w b v came room l) (hl : l.length < room) (hc : came < 18446744073709551615) (rank : Nat) (x : ByteArray) :
    Calls Tryz.prog 45 #[.pointer (some ⟨b, 0, none⟩), .int .u64 rank, Value.string x] w fun e w' => e = .returned (.bool true) ∧
      ∃ v', HeapIn (Value.string) TH TE w' b v' (came + 1) room (pushL l (rank, came, x)) ∧ OwnOrNew w v v' ∧ Upd (HeapOf b v) w w' := by
  obtain ⟨i0, hi, hz0, hz1, hz2⟩ := info_parts infoE
  obtain ⟨ad, cp, rfl⟩ := h.row.form
  obtain ⟨n, hn⟩ : ∃ n, l.length = n := ⟨_, rfl⟩
  obtain ⟨d, hd⟩ : ∃ d, came + 1 = d := ⟨_, rfl⟩
  obtain ⟨s, hs⟩ : ∃ s, n + 1 = s := ⟨_, rfl⟩
  have hrow : w.ownsRow 0 TE 3 (.slice ad l.length cp) l.length (ents (Value.string) l) := h.row
  have hr2 := h.r2
  rw [hd]
  rw [hn] at h hl hrow ⊢
  have e1 : IntKind.u64.wrap ((came : Int) + 1) = (d : Int) := by rw [IntKind.wrap_u64]; omega
  have e2 : (s : Int) - 1 = (n : Int) := by omega
  have d1 : decide (room ≤ n) = false := by simp; omega
  have hn9 : n ≤ 999999999 := by omega
  obtain ⟨c0, c1, c2, z0, z1, z2⟩ := cells3 h.blk
  have H0 := Lib.hid h
  have HROW := Lib.hid hrow
  have HN := Lib.hid hn
  have HD := Lib.hid hd
  have HS := Lib.hid hs
  have HL := Lib.hid hl
  clear h hn hd hs hc hrow hl
  go_enter Tryz.func45, Tryz.ntmps45
  go_wp2_with fail
  go_quiet (fail)
  go_wp2_with fail
  have hU1 : Upd Nowhere w (w.drewN nq) := (Upd.refl _ _).drewN nq
  have H1 := Lib.hid (H0.out.old hU1)
  have HU1 := Lib.hid hU1
  have HROW1 := Lib.hid (ownsRow_upd HROW.out hU1 (fun _ _ h => h))
  have hsz : (w.drewN nq).heap.size = w.heap.size := rfl
  have HSZ := Lib.hid hsz
  clear hU1 hsz c0 c1 c2 z0 z1 z2 H0 HROW
  generalize w.drewN nq = w1 at *
  obtain ⟨c0, c1, c2, z0, z1, z2⟩ := cells3 H1.out.blk
  have a0 : (w1.alloc (.cells #[.int .u64 rank, .int .u64 came, Value.string x] TE)).cell? ⟨b, 0, none⟩ = some (.slice ad n cp) := cell_old ((Upd.refl _ _).alloc _) c0
  go_region_law (refine step_push rfl _ _ 115 rfl 0 TE i0 Z 3 32 Tryz.underlying115 hi hz0 hz1 hz2 rfl (by decide) (by decide) (.slice ad n cp) n _ rfl (ownsRow_upd HROW1.out (by repeat (first | with_reducible exact Upd.refl _ _ | with_reducible refine Upd.drew ?_ | with_reducible refine Upd.alloc ?_ _)) (fun _ _ h => h)) w1.heap.size 1 [.int .u64 rank, .int .u64 came, Value.string x] rfl rfl (new_cells w1 #[.int .u64 rank, .int .u64 came, Value.string x] _) (by simp [Value.oneCell']) hn9 (Nat.zero_le _) ?_; intro v6 w6 hown6 hu6 hn6; have H6 := Lib.hid (push_facts H1.out (rank, came, x) hown6 hu6 hn6 (by repeat (first | with_reducible exact Upd.refl _ _ | with_reducible refine Upd.drew ?_ | with_reducible refine Upd.alloc ?_ _)) HN.out); obtain ⟨g6, c6, rfl⟩ := form6 hown6; obtain ⟨b0, b1, b2, y0, y1, y2⟩ := cells3 H6.out.blk; clear hown6 hu6 hn6 c0 c1 c2 z0 z1 z2 a0)
  all_goals
    go_wp2_with fail
    have H7 := H6.out.heap (by rw [HN.out]; exact HL.out) hr2 d
    refine (up_any (k := n) H7 (Nat.lt_succ_self n)).mono ?_
    rintro e w8 ⟨rfl, h8, u8⟩
    have HQ : Hid (HeapIn (Value.string) TH TE w8 b (.slice (some ⟨g6, 0, none⟩) (n + 1) c6) d room (pushL l (rank, came, x))) := Lib.hid (by unfold pushL; rw [HN.out]; exact h8)
    have HV : Hid (OwnOrNew w (.slice ad n cp) (.slice (some ⟨g6, 0, none⟩) (n + 1) c6)) := Lib.hid (fun k hk => (H6.out.own k hk).imp id (fun h => by rw [← HSZ.out]; exact h))
    have HW : Hid (Upd (HeapOf b (.slice ad n cp)) w w8) := Lib.hid (((((HU1.out.any _).trans H6.out.upd (fun _ _ h => h)).setCell (a := ⟨b, 0, none⟩) (fun _ => .inl rfl) _).setCell (a := ⟨b, 1, none⟩) (fun _ => .inl rfl) _).trans u8 (fun k hk e => by
      subst e
      rcases HV.out k rfl with h | h
      · exact .inr h
      · omega))
    clear h8 u8 H7 H6 b0 b1 b2 y0 y1 y2
    go_wp2_with fail
    go_ret
    exact ⟨rfl, _, HQ.out, HV.out, HW.out⟩
theorem push_full {w : World} {b came room : Nat} {v : Value} {l : List En} (h : HeapIn (Value.string) TH TE w b v came room l) (hl : l.length = room) (rank : Nat) (x : ByteArray) :
    Calls Tryz.prog 45 #[.pointer (some ⟨b, 0, none⟩), .int .u64 rank, Value.string x] w fun e w' => e = .returned (.bool false) ∧ Upd Nowhere w w' := by
  obtain ⟨ad, cp, rfl⟩ := h.row.form
  have hr2 := h.r2
  rw [hl] at h
  have d1 : decide (room ≤ room) = true := by simp
  obtain ⟨c0, c1, c2, z0, z1, z2⟩ := cells3 h.blk
  clear h hl
  go_enter Tryz.func45, Tryz.ntmps45
  go_wp2_with fail
  go_quiet (fail)
  go_wp2_with fail
  go_ret
  exact ⟨rfl, (Upd.refl _ _).drewN _⟩
theorem push_nil (w : World) (rank : Nat) (x : ByteArray) :
    Calls Tryz.prog 45 #[.pointer none, .int .u64 rank, Value.string x] w fun e w' => e = .returned (.bool false) ∧ Upd Nowhere w w' := by
  go_enter Tryz.func45, Tryz.ntmps45
  go_wp2_with fail
  go_quiet (fail)
  go_wp2_with fail
  go_ret
  exact ⟨rfl, (Upd.refl _ _).drewN _⟩
theorem len_some {w : World} {b came room : Nat} {v : Value} {l : List En} (h : HeapIn (Value.string) TH TE w b v came room l) :
    Calls Tryz.prog 47 #[.pointer (some ⟨b, 0, none⟩)] w fun e w' => e = .returned (.int .i64 l.length) ∧ w = w' := by
  obtain ⟨ad, cp, rfl⟩ := h.row.form
  obtain ⟨c0, c1, c2, z0, z1, z2⟩ := cells3 h.blk
  clear h
  go_enter Tryz.func47, Tryz.ntmps47
  go_wp2_with fail
  go_ret
  exact ⟨rfl, rfl⟩
theorem len_nil (w : World) :
    Calls Tryz.prog 47 #[.pointer none] w fun e w' => e = .returned (.int .i64 0) ∧ w = w' := by
  go_enter Tryz.func47, Tryz.ntmps47
  go_wp2_with fail
  go_ret
  exact ⟨rfl, rfl⟩
theorem new_bad (room : Int) (w : World) (h : room < 1 ∨ 4096 < room) :
    Calls Tryz.prog 41 #[.int .i64 room] w fun e w' => e = .returned (.tuple #[.pointer none, .int .i64 25]) ∧ w = w' := by
  by_cases h1 : room < 1
  · have d1 : decide (room < 1) = true := decide_eq_true h1
    go_enter Tryz.func41, Tryz.ntmps41
    go_wp2_with fail
    go_ret2
    exact ⟨rfl, rfl⟩
  · have d1 : decide (room < 1) = false := decide_eq_false h1
    have d2 : decide (4096 < room) = true := by simp; omega
    go_enter Tryz.func41, Tryz.ntmps41
    go_wp2_with fail
    go_ret2
    exact ⟨rfl, rfl⟩
theorem new_ok (room : Nat) (w : World) (h1 : 1 ≤ room) (h2 : room ≤ 4096) :
    Calls Tryz.prog 41 #[.int .i64 room] w fun e w' => e = .returned (.tuple #[.pointer (some ⟨w.heap.size, 0, none⟩), .int .i64 0]) ∧ HeapIn (Value.string) TH TE w' w.heap.size (.slice none 0 0) 0 room [] ∧ Upd Nowhere w w' := by
  have d1 : decide ((room : Int) < 1) = false := by simp; omega
  have d2 : decide (4096 < (room : Int)) = false := by simp; omega
  go_enter Tryz.func41, Tryz.ntmps41
  go_wp2_with fail
  go_ret2
  exact ⟨rfl, ⟨Blk.new _ _ _, ownsRow_nil _ _ _ _, by simp, h1, h2, by simp [Value.ownBlock]⟩, (Upd.refl _ _).alloc _⟩
end Go.Proofs.YtjbaibnmbeabnaaGreatDoor.HeapS
namespace Go.Proofs.YtjbaibnmbeabnaaGreatDoor.HeapS
open Go.RowKit Go.Proofs BigFrame Heap
set_option maxHeartbeats 4000000
set_option maxRecDepth 1000000
theorem peek_nil (w : World) :
    Calls Tryz.prog 73 #[.pointer none] w fun e w' => e = .returned (.tuple #[.int .u64 0, Value.string ⟨#[]⟩, .bool false]) ∧ Upd Nowhere w w' := by
  have HL := fun u => Lib.hid (len_nil u)
  go_enter Tryz.func73, Tryz.ntmps73
  go_wp2_with fail
  refine ((HL _).out).mono ?_
  rintro e w' ⟨rfl, rfl⟩
  go_wp2_with fail
  go_ret3
  exact ⟨rfl, Upd.refl _ _⟩
theorem peek_empty {w : World} {b came room : Nat} {v : Value} (h : HeapIn (Value.string) TH TE w b v came room ([] : List En)) :
    Calls Tryz.prog 73 #[.pointer (some ⟨b, 0, none⟩)] w fun e w' => e = .returned (.tuple #[.int .u64 0, Value.string ⟨#[]⟩, .bool false]) ∧ Upd Nowhere w w' := by
  have HL := Lib.hid (len_some h)
  clear h
  go_enter Tryz.func73, Tryz.ntmps73
  go_wp2_with fail
  refine (HL.out).mono ?_
  rintro e w' ⟨rfl, rfl⟩
  go_wp2_with fail
  go_ret3
  exact ⟨rfl, Upd.refl _ _⟩
theorem peek_some {w : World} {b came room : Nat} {v : Value} {l : List En} {a : En} (h : HeapIn (Value.string) TH TE w b v came room l) (ha : l[0]? = some a) :
    Calls Tryz.prog 73 #[.pointer (some ⟨b, 0, none⟩)] w fun e w' => e = .returned (.tuple #[.int .u64 a.1, Value.string a.2.2, .bool true]) ∧ Upd Nowhere w w' := by
  obtain ⟨n, hn⟩ : ∃ n, l.length = n := ⟨_, rfl⟩
  have hn0 : 0 < n := by have := get_lt ha; omega
  obtain ⟨g, c, rfl, _, _⟩ := Row.arr h.row (by omega)
  have HL := Lib.hid (len_some h)
  obtain ⟨c0, c1, c2, z0, z1, z2⟩ := cells3 h.blk
  obtain ⟨k0, k1, k2, f0, f1, f2⟩ := h.at ha
  rw [hn] at HL c0
  obtain ⟨a0, a1, a2⟩ := a
  have hd : ((n : Int) == 0) = false := by simp; omega
  clear h ha hn
  go_enter Tryz.func73, Tryz.ntmps73
  go_wp2_with fail
  refine (HL.out).mono ?_
  rintro e w' ⟨rfl, rfl⟩
  go_wp2_with fail
  go_quiet (fail)
  go_wp2_with fail
  go_ret3
  exact ⟨rfl, (Upd.refl _ _).drewN _⟩
theorem pop_nil (w : World) :
    Calls Tryz.prog 48 #[.pointer none] w fun e w' => e = .returned (.tuple #[.int .u64 0, Value.string ⟨#[]⟩, .bool false]) ∧ Upd Nowhere w w' := by
  have HL := fun u => Lib.hid (peek_nil u)
  go_enter Tryz.func48, Tryz.ntmps48
  go_wp2_with fail
  refine ((HL _).out).mono ?_
  rintro e w' ⟨rfl, hu⟩
  go_wp2_with fail
  go_ret3
  exact ⟨rfl, hu⟩
theorem pop_empty {w : World} {b came room : Nat} {v : Value} (h : HeapIn (Value.string) TH TE w b v came room ([] : List En)) :
    Calls Tryz.prog 48 #[.pointer (some ⟨b, 0, none⟩)] w fun e w' => e = .returned (.tuple #[.int .u64 0, Value.string ⟨#[]⟩, .bool false]) ∧ Upd Nowhere w w' := by
  have HL := Lib.hid (peek_empty h)
  clear h
  go_enter Tryz.func48, Tryz.ntmps48
  go_wp2_with fail
  refine (HL.out).mono ?_
  rintro e w' ⟨rfl, hu⟩
  go_wp2_with fail
  go_ret3
  exact ⟨rfl, hu⟩
theorem take_last {l : List En} {m : Nat} (z y : En) (hl : l.length = m + 1) : ((l.set 0 z).set m y).take m = (l.set 0 z).dropLast := by
  rw [List.dropLast_eq_take, List.length_set, hl, Nat.add_sub_cancel]
  refine List.ext_getElem? fun i => ?_
  rcases Nat.lt_or_ge i m with h | h
  · rw [List.getElem?_take_of_lt h, List.getElem?_take_of_lt h, List.getElem?_set, if_neg (by omega)]
  · rw [List.getElem?_eq_none (by simp; omega), List.getElem?_eq_none (by simp; omega)]
theorem pop_some {w : World} {b came room : Nat} {v : Value} {l : List En} {a : En} (h : HeapIn (Value.string) TH TE w b v came room l) (ha : l[0]? = some a) :
    Calls Tryz.prog 48 #[.pointer (some ⟨b, 0, none⟩)] w fun e w' => e = .returned (.tuple #[.int .u64 a.1, Value.string a.2.2, .bool true]) ∧
      ∃ v', HeapIn (Value.string) TH TE w' b v' came room (popL l) ∧ OwnOrNew w v v' ∧ Upd (HeapOf b v) w w' := by
  have h0 := get_lt ha
  obtain ⟨m, hm⟩ : ∃ m, l.length = m + 1 := ⟨l.length - 1, by omega⟩
  obtain ⟨n, hn⟩ : ∃ n, m + 1 = n := ⟨_, rfl⟩
  obtain ⟨g, c, rfl, hc1, hc2⟩ := Row.arr h.row (by omega)
  obtain ⟨z, hz⟩ : ∃ z, l[m]? = some z := ⟨l[m]'(by omega), by simp⟩
  have HP := Lib.hid (peek_some h ha)
  have hr2 := h.r2
  have hle := h.le
  have HLU : Hid (lastUp l = (l.set 0 z).dropLast) := Lib.hid (lastUp_at (by rw [hm, Nat.add_sub_cancel]; exact hz))
  have HTL := Lib.hid (take_last z ((0, 0, ⟨#[]⟩) : En) hm)
  rw [hm, hn] at h hc1 hle ⊢
  have hnc : n ≤ c := hc1
  have hn4 : n ≤ 4096 := by omega
  have hm4 : m < n := by omega
  have hn0 : 0 < n := by omega
  have e1 : (n : Int) - 1 = (m : Int) := by omega
  obtain ⟨a0, a1, a2⟩ := a
  obtain ⟨z0', z1', z2'⟩ := z
  have H0 := Lib.hid h
  have HM := Lib.hid hm
  have HN := Lib.hid hn
  have HA := Lib.hid ha
  have HZ := Lib.hid hz
  have HC1 := Lib.hid hc1
  clear h ha hz hm hn hc1 hc2 hle
  go_enter Tryz.func48, Tryz.ntmps48
  go_wp2_with fail
  refine (HP.out).mono ?_
  rintro e w1 ⟨rfl, hu1⟩
  have H1 := Lib.hid (H0.out.old hu1)
  have HU1 := Lib.hid (hu1.any (HeapOf b (.slice (some ⟨g, 0, none⟩) n c)))
  clear hu1 HP
  obtain ⟨c0, c1, c2, z0, z1, z2⟩ := cells3 H1.out.blk
  obtain ⟨k0, k1, k2, f0, f1, f2⟩ := H1.out.at HA.out
  obtain ⟨j0, j1, j2, g0, g1, g2⟩ := H1.out.at HZ.out
  go_wp2_with fail
  refine wp_region_tail 11 (by kernel_rfl) (by kernel_rfl) ?_
  simp only [List.take_succ_cons, List.take_zero, List.drop_succ_cons, List.drop_zero]
  repeat (go_big_quiet_step (fail))
  refine wpQuiet_nil ?_
  rintro _ ⟨nq, rfl⟩
  go_wp2_with fail
  refine Stage.out ?_
  have hgb : b ≠ g := fun e => H0.out.off (by rw [e]; rfl)
  have hgb1 : ¬ b = g := hgb
  have hgb2 : ¬ g = b := fun e => hgb e.symm
  have H2 : Hid (HeapIn (Value.string) TH TE ((((w1.drewN nq).setCell ⟨g, 0, none⟩ (.int .u64 z0')).setCell ⟨g, 1, none⟩ (.int .u64 z1')).setCell ⟨g, 2, none⟩ (Value.string z2')) b (.slice (some ⟨g, 0, none⟩) n c) came room (l.set 0 (z0', z1', z2'))) := Lib.hid ((H1.out.old ((Upd.refl _ _).drewN nq)).setN 0 (z0', z1', z2'))
  have HU2 : Hid (Upd (HeapOf b (.slice (some ⟨g, 0, none⟩) n c)) w ((((w1.drewN nq).setCell ⟨g, 0, none⟩ (.int .u64 z0')).setCell ⟨g, 1, none⟩ (.int .u64 z1')).setCell ⟨g, 2, none⟩ (Value.string z2'))) := Lib.hid (Upd.entry (HU1.out.drewN nq) (fun _ => .inr rfl) 0 _ _ _)
  clear c0 c1 c2 z0 z1 z2 k0 k1 k2 f0 f1 f2 j0 j1 j2 g0 g1 g2 H1 HU1 hgb
  generalize (((w1.drewN nq).setCell ⟨g, 0, none⟩ (.int .u64 z0')).setCell ⟨g, 1, none⟩ (.int .u64 z1')).setCell ⟨g, 2, none⟩ (Value.string z2') = w2 at *
  have hz2 : (l.set 0 (z0', z1', z2'))[m]? = some (z0', z1', z2') := by
    rw [List.getElem?_set]
    by_cases e : 0 = m
    · rw [if_pos e]; simp [show 0 < l.length by omega]
    · rw [if_neg e]; exact HZ.out
  obtain ⟨c0, c1, c2, z0, z1, z2⟩ := cells3 H2.out.blk
  obtain ⟨j0, j1, j2, g0, g1, g2⟩ := H2.out.at hz2
  have hmc : m ≤ c := by omega
  have H4 := Lib.hid ((H2.out.setN m ((0, 0, ⟨#[]⟩) : En)).cut m (by omega))
  have HU4 := Lib.hid ((Upd.entry (w' := w2) HU2.out (fun _ => .inr rfl) m (.int .u64 ((0 : Nat) : Int)) (.int .u64 ((0 : Nat) : Int)) (Value.string ⟨#[]⟩)).setCell (a := ⟨b, 0, none⟩) (fun _ => .inl rfl) (.slice (some ⟨g, 0, none⟩) m c))
  have HD := Lib.hid (down_any (k := 0) H4.out (Nat.zero_le _))
  clear hz2 H4
  go_wp2_with fail
  refine HD.out.mono ?_
  rintro e w5 ⟨rfl, h5, u5⟩
  have HQ : Hid (HeapIn (Value.string) TH TE w5 b (.slice (some ⟨g, 0, none⟩) m c) came room (popL l)) := Lib.hid (by unfold popL; rw [HLU.out, ← HTL.out]; exact h5)
  have HW := Lib.hid (HU4.out.trans u5 (fun k _ e => .inr (by rw [e]; rfl)))
  clear h5 u5 HD HU4 c0 c1 c2 z0 z1 z2 j0 j1 j2 g0 g1 g2
  go_wp2_with fail
  go_ret3
  exact ⟨rfl, _, HQ.out, fun k hk => .inl hk, HW.out⟩
end Go.Proofs.YtjbaibnmbeabnaaGreatDoor.HeapS
namespace Go.Proofs.YtjbaibnmbeabnaaGreatDoor.HeapS
open Go.RowKit Go.Proofs BigFrame Heap
abbrev H (A : Nat → Prop) (w0 w : World) (b came room : Nat) (l : List En) : Prop := HasH (Value.string) TH TE A w0 w b came room l
section
variable {A : Nat → Prop} {w0 w : World} {b came room : Nat} {l : List En}
theorem h_new (room : Nat) (w0 w : World) (A : Nat → Prop) (h1 : 1 ≤ room) (h2 : room ≤ 4096) (hle : w0.heap.size ≤ w.heap.size) (hA : ∀ k, A k → k < w.heap.size) :
    Calls Tryz.prog 41 #[.int .i64 room] w fun e w' => e = .returned (.tuple #[.pointer (some ⟨w.heap.size, 0, none⟩), .int .i64 0]) ∧ H A w0 w' w.heap.size 0 room [] ∧ Upd Nowhere w w' := by
  refine (new_ok room w h1 h2).mono ?_
  rintro e w' ⟨rfl, h, hu⟩
  refine ⟨rfl, ⟨fun i a b hi ha => (by cases ha), ⟨_, h, fun k hk => ?_⟩, Nat.le_trans hle hu.size, fun k hk => Nat.lt_of_lt_of_le (hA k hk) hu.size⟩, hu⟩
  rcases hk with rfl | hk
  · exact ⟨hle, fun ha => absurd (hA _ ha) (Nat.lt_irrefl _)⟩
  · cases hk
theorem h_len (h : H A w0 w b came room l) : Calls Tryz.prog 47 #[.pointer (some ⟨b, 0, none⟩)] w fun e w' => e = .returned (.int .i64 l.length) ∧ w = w' := by
  obtain ⟨v, h1, _⟩ := h.isin
  exact len_some h1
theorem h_push (h : H A w0 w b came room l) (hl : l.length < room) (hc : came < 18446744073709551615) (rank : Nat) (x : ByteArray) :
    Calls Tryz.prog 45 #[.pointer (some ⟨b, 0, none⟩), .int .u64 rank, Value.string x] w fun e w' => e = .returned (.bool true) ∧
      H A w0 w' b (came + 1) room (pushL l (rank, came, x)) ∧ Upd (fun k => w0.heap.size ≤ k ∧ ¬ A k) w w' := by
  obtain ⟨v, h1, h2⟩ := h.isin
  refine (push_room h1 hl hc rank x).mono ?_
  rintro e w' ⟨rfl, t⟩
  exact ⟨rfl, h.turned h2 (push_heap h.heap _) t⟩
theorem h_full (h : H A w0 w b came room l) (hl : l.length = room) (rank : Nat) (x : ByteArray) :
    Calls Tryz.prog 45 #[.pointer (some ⟨b, 0, none⟩), .int .u64 rank, Value.string x] w fun e w' => e = .returned (.bool false) ∧ Upd Nowhere w w' := by
  obtain ⟨v, h1, h2⟩ := h.isin
  exact push_full h1 hl rank x
theorem h_peek (h : H A w0 w b came room l) {a : En} (ha : l[0]? = some a) :
    Calls Tryz.prog 73 #[.pointer (some ⟨b, 0, none⟩)] w fun e w' => e = .returned (.tuple #[.int .u64 a.1, Value.string a.2.2, .bool true]) ∧ Upd Nowhere w w' := by
  obtain ⟨v, h1, h2⟩ := h.isin
  exact peek_some h1 ha
theorem h_peek0 (h : H A w0 w b came room []) :
    Calls Tryz.prog 73 #[.pointer (some ⟨b, 0, none⟩)] w fun e w' => e = .returned (.tuple #[.int .u64 0, Value.string ⟨#[]⟩, .bool false]) ∧ Upd Nowhere w w' := by
  obtain ⟨v, h1, h2⟩ := h.isin
  exact peek_empty h1
theorem h_pop (h : H A w0 w b came room l) {a : En} (ha : l[0]? = some a) :
    Calls Tryz.prog 48 #[.pointer (some ⟨b, 0, none⟩)] w fun e w' => e = .returned (.tuple #[.int .u64 a.1, Value.string a.2.2, .bool true]) ∧
      H A w0 w' b came room (popL l) ∧ Upd (fun k => w0.heap.size ≤ k ∧ ¬ A k) w w' := by
  obtain ⟨v, h1, h2⟩ := h.isin
  refine (pop_some h1 ha).mono ?_
  rintro e w' ⟨rfl, t⟩
  exact ⟨rfl, h.turned h2 (pop_heap h.heap) t⟩
theorem h_pop0 (h : H A w0 w b came room []) :
    Calls Tryz.prog 48 #[.pointer (some ⟨b, 0, none⟩)] w fun e w' => e = .returned (.tuple #[.int .u64 0, Value.string ⟨#[]⟩, .bool false]) ∧ Upd Nowhere w w' := by
  obtain ⟨v, h1, h2⟩ := h.isin
  exact pop_empty h1
end
end Go.Proofs.YtjbaibnmbeabnaaGreatDoor.HeapS
namespace Go.Proofs.YtjbaibnmbeabnaaGreatDoor.HeapS
open Go.RowKit Go.Proofs BigFrame Heap
open Cal (ins itms itm Mt insE)
set_option maxHeartbeats 1000000
/-- A heap of the blocks own that has the sorted list m; at most c came. -/
def Hq (w : World) (b : Nat) (own : Nat → Prop) (room c : Nat) (m : List (Nat × ByteArray)) : Prop :=
  ∃ v came l s, HeapIn (Value.string) TH TE w b v came room l ∧ IsHeap l ∧ Mt came l s ∧ itms s = m ∧ came ≤ c ∧ ∀ k, own k ↔ HeapOf b v k
section
variable {w w' : World} {b room c : Nat} {own : Nat → Prop} {m : List (Nat × ByteArray)}
theorem Hq.lts (h : Hq w b own room c m) {k : Nat} (hk : own k) : k < w.heap.size := by
  obtain ⟨v, came, l, s, hh, _, _, _, _, ho⟩ := h
  exact hh.lts ((ho k).1 hk)
theorem Hq.self (h : Hq w b own room c m) : own b := by
  obtain ⟨v, came, l, s, hh, _, _, _, _, ho⟩ := h
  exact (ho b).2 (.inl rfl)
theorem Hq.kept (h : Hq w b own room c m) {S : Nat → Prop} (hu : Upd S w w') (hS : ∀ k, own k → ¬ S k) : Hq w' b own room c m := by
  obtain ⟨v, came, l, s, hh, h1, h2, h3, h4, ho⟩ := h
  exact ⟨v, came, l, s, hh.kept hu (fun k hk => hS k ((ho k).2 hk)), h1, h2, h3, h4, ho⟩
theorem Hq.more (h : Hq w b own room c m) {c' : Nat} (hc : c ≤ c') : Hq w b own room c' m := by
  obtain ⟨v, came, l, s, hh, h1, h2, h3, h4, ho⟩ := h
  exact ⟨v, came, l, s, hh, h1, h2, h3, by omega, ho⟩
theorem Hq.le (h : Hq w b own room c m) : m.length ≤ room := by
  obtain ⟨v, came, l, s, hh, h1, h2, rfl, h4, ho⟩ := h
  have := hh.le
  rw [Cal.itms_len, h2.len]; exact this
theorem q_new (room : Nat) (w : World) (h1 : 1 ≤ room) (h2 : room ≤ 4096) :
    Calls Tryz.prog 41 #[.int .i64 room] w fun e w' => e = .returned (.tuple #[.pointer (some ⟨w.heap.size, 0, none⟩), .int .i64 0]) ∧ (∃ own, Hq w' w.heap.size own room 0 [] ∧ ∀ k, own k → w.heap.size ≤ k) ∧ Upd Nowhere w w' := by
  refine (new_ok room w h1 h2).mono ?_
  rintro e w' ⟨rfl, h, hu⟩
  refine ⟨rfl, ⟨_, ⟨_, _, _, _, h, fun i a b hi ha => (by cases ha), Mt.nil, rfl, Nat.le_refl _, fun _ => Iff.rfl⟩, fun k hk => ?_⟩, hu⟩
  rcases hk with rfl | hk
  · exact Nat.le_refl _
  · cases hk
theorem q_len (h : Hq w b own room c m) : Calls Tryz.prog 47 #[.pointer (some ⟨b, 0, none⟩)] w fun e w' => e = .returned (.int .i64 m.length) ∧ w = w' := by
  obtain ⟨v, came, l, s, hh, h1, h2, rfl, h4, ho⟩ := h
  rw [Cal.itms_len, h2.len]
  exact len_some hh
theorem own_of {b : Nat} {v v' : Value} {own : Nat → Prop} (ho : ∀ k, own k ↔ HeapOf b v k) (h : OwnOrNew w v v') : ∀ k, HeapOf b v' k → own k ∨ w.heap.size ≤ k := fun k hk => by
  rcases hk with rfl | hk
  · exact .inl ((ho _).2 (.inl rfl))
  · rcases h k hk with h | h
    · exact .inl ((ho _).2 (.inr h))
    · exact .inr h
theorem q_push (h : Hq w b own room c m) (hl : m.length < room) (hc : c < 18446744073709551615) (rank : Nat) (x : ByteArray) :
    Calls Tryz.prog 45 #[.pointer (some ⟨b, 0, none⟩), .int .u64 rank, Value.string x] w fun e w' => e = .returned (.bool true) ∧
      (∃ own', Hq w' b own' room (c + 1) (ins rank x m) ∧ ∀ k, own' k → own k ∨ w.heap.size ≤ k) ∧ Upd own w w' := by
  obtain ⟨v, came, l, s, hh, h1, h2, rfl, h4, ho⟩ := h
  rw [Cal.itms_len, h2.len] at hl
  refine (push_room hh hl (by omega) rank x).mono ?_
  rintro e w' ⟨rfl, v', t1, t2, t3⟩
  refine ⟨rfl, ⟨_, ⟨v', _, _, _, t1, push_heap h1 _, h2.push rank x, ?_, by omega, fun _ => Iff.rfl⟩, own_of ho t2⟩, t3.mono fun k _ hk => (ho k).2 hk⟩
  exact Cal.itms_ins (rank, came, x) s
theorem q_peek {r : Nat} {x : ByteArray} {t : List (Nat × ByteArray)} (h : Hq w b own room c ((r, x) :: t)) :
    Calls Tryz.prog 73 #[.pointer (some ⟨b, 0, none⟩)] w fun e w' => e = .returned (.tuple #[.int .u64 r, Value.string x, .bool true]) ∧ Upd Nowhere w w' := by
  obtain ⟨v, came, l, s, hh, h1, h2, h3, h4, ho⟩ := h
  cases s with
  | nil => cases h3
  | cons a s =>
    injection h3 with e1 e2
    have h0 := h2.head h1
    have := peek_some hh h0
    unfold itm at e1
    injection e1 with e3 e4
    rw [e3, e4] at this
    exact this
theorem q_peek0 (h : Hq w b own room c []) :
    Calls Tryz.prog 73 #[.pointer (some ⟨b, 0, none⟩)] w fun e w' => e = .returned (.tuple #[.int .u64 0, Value.string ⟨#[]⟩, .bool false]) ∧ Upd Nowhere w w' := by
  obtain ⟨v, came, l, s, hh, h1, h2, h3, h4, ho⟩ := h
  cases s with
  | cons a s => cases h3
  | nil =>
    obtain rfl := h2.none
    exact peek_empty hh
theorem q_pop {r : Nat} {x : ByteArray} {t : List (Nat × ByteArray)} (h : Hq w b own room c ((r, x) :: t)) :
    Calls Tryz.prog 48 #[.pointer (some ⟨b, 0, none⟩)] w fun e w' => e = .returned (.tuple #[.int .u64 r, Value.string x, .bool true]) ∧
      (∃ own', Hq w' b own' room c t ∧ ∀ k, own' k → own k ∨ w.heap.size ≤ k) ∧ Upd own w w' := by
  obtain ⟨v, came, l, s, hh, h1, h2, h3, h4, ho⟩ := h
  cases s with
  | nil => cases h3
  | cons a s =>
    injection h3 with e1 e2
    have h0 := h2.head h1
    have hp := pop_some hh h0
    unfold itm at e1
    injection e1 with e3 e4
    rw [e3, e4] at hp
    refine hp.mono ?_
    rintro e w' ⟨rfl, v', t1, t2, t3⟩
    exact ⟨rfl, ⟨_, ⟨v', _, _, _, t1, pop_heap h1, h2.pop h1, e2, h4, fun _ => Iff.rfl⟩, own_of ho t2⟩, t3.mono fun k _ hk => (ho k).2 hk⟩
theorem q_full (h : Hq w b own room c m) (hl : m.length = room) (rank : Nat) (x : ByteArray) :
    Calls Tryz.prog 45 #[.pointer (some ⟨b, 0, none⟩), .int .u64 rank, Value.string x] w fun e w' => e = .returned (.bool false) ∧ Upd Nowhere w w' := by
  obtain ⟨v, came, l, s, hh, h1, h2, rfl, h4, ho⟩ := h
  rw [Cal.itms_len, h2.len] at hl
  exact push_full hh hl rank x
theorem q_pop0 (h : Hq w b own room c []) :
    Calls Tryz.prog 48 #[.pointer (some ⟨b, 0, none⟩)] w fun e w' => e = .returned (.tuple #[.int .u64 0, Value.string ⟨#[]⟩, .bool false]) ∧ Upd Nowhere w w' := by
  obtain ⟨v, came, l, s, hh, h1, h2, h3, h4, ho⟩ := h
  cases s with
  | cons a s => cases h3
  | nil =>
    obtain rfl := h2.none
    exact pop_empty hh
end
end Go.Proofs.YtjbaibnmbeabnaaGreatDoor.HeapS
