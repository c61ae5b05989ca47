/- drr: Next, the turns. -/
import Derived.Test.YtopibbaopglggaaDrr4
import Derived.Deep.LoopGhost
import Derived.Deep.RegionLaw
namespace Go.Proofs.Ytopibbaopglggaa.Drr
open Go.RowKit Go.Proofs BigFrame
open PairD (TR TE el)
set_option maxHeartbeats 8000000
set_option maxRecDepth 1000000
theorem head_in {w : World} {t gc cc n cnt : Nat} {rv : Value} {st : Turn} {q rb : Nat → Nat} {rg : Nat → Option Nat} {its : Items} (h : D w t gc cc n cnt rv st q rb rg its) {c : Nat} (hc : c < n) {x : Nat × Int} {l : List (Nat × Int)} (hx : its c = x :: l) :
    Calls Try.prog 57 #[.pointer (some ⟨rb c, 0, none⟩)] w fun e w' => e = .returned (.tuple #[.agg #[.int .u64 (x.1 : Nat), .int .i64 x.2], .bool true]) ∧ Upd Nowhere w w' := by
  obtain ⟨fr, len, hP⟩ := h.ring c hc
  simp only [hx, elN_map] at hP
  exact PairD.head_any w (rb c) (rg c) 1024 fr len _ hP
/-- The turns of Next: what is carried. -/
def Goes (w wr : World) (t gc cc n cnt : Nat) (rv : Value) (q rb : Nat → Nat) (rg : Nat → Option Nat) (its : Items) (goal st2 : Turn) (rv2 : Value) (f : Nat) : Prop :=
  D wr t gc cc n cnt rv2 st2 q rb rg its ∧ Fits n q its st2 ∧ st2.row ≠ [] ∧ meas n st2 < f ∧ spin q (hdOf its) f st2 = goal ∧ (∀ k, rv2.ownBlock = some k → rv.ownBlock = some k ∨ w.heap.size ≤ k) ∧ Upd (DrrOf t gc n rv rb rg) w wr
theorem next_some {w : World} {t gc cc n cnt : Nat} {rv : Value} {st : Turn} {q rb : Nat → Nat} {rg : Nat → Option Nat} {its : Items} (h : D w t gc cc n cnt rv st q rb rg its) (hF : Fits n q its st) (hne : st.row ≠ []) (hc0 : 0 < cnt) (hc1 : cnt ≤ 65536)
    {c : Nat} {r : List Nat} {cr : Nat → Nat} (hspin : spin q (hdOf its) (meas n st + 1) st = ⟨c :: r, true, cr⟩) {size : Nat} {idn : Int} {tl : List (Nat × Int)} (hx : its c = (size, idn) :: tl) :
    Calls Try.prog 22 #[.pointer (some ⟨t, 0, none⟩)] w fun e w' => e = .returned (.tuple #[.int .i64 c, .int .u64 size, .int .i64 idn, .bool true]) ∧ ∃ rv' rg', Turned w w' t gc cc n (cnt - 1) rv' (left c r cr size tl.isEmpty) q rb rg' (upd its c tl) rv rg := by
  obtain ⟨i0, hi, hz0, hz1, hz2⟩ := info_parts infoI
  have HLn := Lib.hid (len_any h)
  have t0 : ((cnt : Int) == 0) = false := by simp; omega
  have H0 := Lib.hid h
  have HF0 := Lib.hid hF
  have HNE := Lib.hid hne
  have HSP := Lib.hid hspin
  have HX := Lib.hid hx
  have hcn : c < n := by
    obtain ⟨h1, _⟩ := spin_ends (meas n st + 1) st hF (Nat.lt_succ_self _) hne
    rw [hspin] at h1
    exact (h1.head rfl).1
  clear h hF hne hspin hx
  go_enter Try.func22, Try.ntmps22
  go_wp2_with fail
  go_step3
  go_wp2_with fail
  refine (HLn.out).mono ?_
  rintro e w' ⟨rfl, rfl⟩
  go_wp2_with fail
  go_step3
  go_upto_block 0 with fail
  go_cut [6] (fun p wx => p = .pointer (some ⟨gc, c * 3, none⟩) ∧ ∃ rv2, D wx t gc cc n cnt rv2 ⟨c :: r, true, cr⟩ q rb rg its ∧ Fits n q its ⟨c :: r, true, cr⟩ ∧ hdOf its c ≤ cr c ∧ (∀ k, rv2.ownBlock = some k → rv.ownBlock = some k ∨ w.heap.size ≤ k) ∧ Upd (DrrOf t gc n rv rb rg) w wx)
  case first =>
    go_wp2_with fail
    go_loopg [6] (meas n st + 1) (fun g _ wr => ∃ st2 rv2, Goes w wr t gc cc n cnt rv q rb rg its ⟨c :: r, true, cr⟩ st2 rv2 g)
    case atStart => exact ⟨st, rv, H0.out, HF0.out, HNE.out, Nat.lt_succ_self _, HSP.out, fun k hk => .inl hk, Upd.refl _ _⟩
    case round =>
      obtain ⟨st2, rv2, hD2, hF2, hne2, hm2, hsp2, hov2, hu2⟩ := hrel
      obtain ⟨f, rfl⟩ : ∃ f, gk = f + 1 := ⟨gk - 1, by omega⟩
      obtain ⟨w2, rfl⟩ : ∃ x, x = wr := ⟨_, rfl⟩
      obtain ⟨c2', r2, hrow⟩ : ∃ a b, st2.row = a :: b := by
        cases hr : st2.row with
        | nil => exact absurd hr hne2
        | cons a b => exact ⟨a, b, rfl⟩
      obtain ⟨hc2n, ⟨s2, id2⟩, l2, hx2⟩ := hF2.head hrow
      have hst2 := hF2.start_le hrow
      have hrl := hF2.rlen
      rw [hrow, List.length_cons] at hrl
      have hnl := hD2.nle
      have hr2l : r2.length ≤ 65536 := by omega
      have HBG := Lib.hid (begin_any hD2 hrow hc2n hst2)
      have HF2 := Lib.hid hF2
      have HM2 := Lib.hid hm2
      have HSP2 := Lib.hid hsp2
      have HOV := Lib.hid hov2
      have HU2 := Lib.hid hu2
      have HROW := Lib.hid hrow
      have HX2 := Lib.hid hx2
      clear hD2 hF2 hne2 hm2 hsp2 hov2 hu2 hrow hx2 hst2 H0 HF0 HNE HSP HLn
      go_wp2_with fail
      refine (HBG.out).mono ?_
      rintro e w3 ⟨rfl, hD3, hu3⟩
      have H3 := Lib.hid hD3
      have hHd := Lib.hid (head_in (st := ⟨st2.row, true, startCr q st2 c2'⟩) hD3 hc2n HX2.out)
      have HU3 := Lib.hid (HU2.out.trans hu3 (fun k _ hk => hk.elim .inl (fun h => .inr (.inl h))))
      have hrbc := hD3.rb_ hc2n
      clear hD3 hu3
      go_wp2_with fail
      refine (hHd.out).mono ?_
      rintro e w3b ⟨rfl, u3b⟩
      go_upto_region 8 with fail
      have hX4 : Blk (w3b.alloc (.cells #[.int .u64 (s2 : Nat), .int .i64 id2] TE)) w3b.heap.size #[.int .u64 (s2 : Nat), .int .i64 id2] TE := Blk.new _ _ _
      have hu4 : Upd Nowhere w3 (w3b.alloc (.cells #[.int .u64 (s2 : Nat), .int .i64 id2] TE)) := u3b.alloc _
      have H4 := Lib.hid (H3.out.old hu4)
      have HU4 := Lib.hid (HU3.out.trans hu4 (fun _ _ h => h.elim))
      generalize w3b.alloc (.cells #[.int .u64 (s2 : Nat), .int .i64 id2] TE) = w4 at *
      clear u3b hu4 hrbc H3 HU3
      obtain ⟨x0, x1, yx0, yx1⟩ := cells2 hX4
      obtain ⟨c0, c1, c2, c3, z0, z1, z2, z3⟩ := cells4 H4.out.blk
      have hcr : w4.cell? ⟨gc, c2' * 3 + 1, none⟩ = some (.int .u64 (startCr q st2 c2' c2' : Nat)) := H4.out.cr_ hc2n
      have zc := H4.out.cfree (c2' * 3 + 1)
      have hln := H4.out.lane
      rw [HROW.out] at hln
      obtain ⟨g2, o2, cv, hv, hcell, hg2, hlt⟩ := hln.cons
      subst hv
      have HLT := Lib.hid hlt
      have HOW : Hid (∀ k, k < w.heap.size → (Value.slice (some ⟨g2, o2, none⟩) (r2.length + 1) (cv + 1)).ownBlock = some k → DrrOf t gc n rv rb rg k) := Lib.hid (fun k hkw hk => (HOV.out k hk).elim (fun h => .inr (.inr (.inl h))) (fun h => absurd hkw (Nat.not_lt.2 h)))
      obtain ⟨k0, hk0⟩ : ∃ x, startCr q st2 c2' c2' = x := ⟨_, rfl⟩
      rw [hk0] at hcr
      have HK0 := Lib.hid hk0
      have j0 : (0 : Int) < (r2.length : Int) + 1 := by omega
      have j1 : (1 : Int) ≤ (r2.length : Int) + 1 := by omega
      have j2 : (r2.length : Int) + 1 ≤ (cv : Int) + 1 := by
        rcases hln with ⟨h, _⟩ | ⟨_, _, _, h, h1, _⟩
        · cases h
        · cases h; simp at h1; omega
      clear hln hlt hk0
      by_cases hst : s2 ≤ k0
      · have d0 : decide (s2 ≤ k0) = true := decide_eq_true hst
        have d1 : decide ((s2 : Int) ≤ k0) = true := decide_eq_true (by omega)
        go_quiet (fail)
        have H5 := Lib.hid (H4.out.old ((Upd.refl _ _).drewN nq))
        go_wp2_with fail
        go_meet
        have hst' : hdOf its c2' ≤ startCr q st2 c2' c2' := by rw [HK0.out, hdOf_cons HX2.out]; exact hst
        have hgo := HSP2.out
        rw [spin_stop HROW.out hst'] at hgo
        injection hgo with g1 g2' g3
        injection g1 with g1 g4
        subst g1 g4 g3
        refine ⟨rfl, _, ?_, by have h9 := HF2.out.stop HROW.out; exact h9, hst', HOV.out, HU4.out.drewN nq⟩
        have h9 := H5.out
        rw [HROW.out] at h9
        exact h9
      · have d0 : decide (s2 ≤ k0) = false := decide_eq_false hst
        have d1 : decide ((s2 : Int) ≤ k0) = false := decide_eq_false (by omega)
        have hstN : ¬ hdOf its c2' ≤ startCr q st2 c2' c2' := by rw [HK0.out, hdOf_cons HX2.out]; exact hst
        have HSTN := Lib.hid hstN
        clear hstN
        go_quiet (fail)
        have H4b := Lib.hid (H4.out.old ((Upd.refl _ _).drewN nq))
        have HU4b := Lib.hid (HU4.out.drewN nq)
        have HLTb := Lib.hid (HLT.out.upd ((Upd.refl Nowhere _).drewN nq) (fun _ _ h => h))
        go_upto_region 6 with fail
        clear x0 x1 yx0 yx1 c0 c1 c2 c3 z0 z1 z2 z3 hcr zc hcell H4 HU4 HLT hX4
        generalize w4.drewN nq = w4 at *
        obtain ⟨c0, c1, c2, c3, z0, z1, z2, z3⟩ := cells4 H4b.out.blk
        have hln := H4b.out.lane
        rw [HROW.out] at hln
        obtain ⟨g2', o2', cv', hv, hcell, _, _⟩ := hln.cons
        cases hv
        clear hln
        by_cases hcv : cv = 0
        · subst hcv
          have HLT := Lib.hid (show Lane TI w4 (.slice (some ⟨g2, o2, none⟩) r2.length 0) r2 from HLTb.out)
          have c1a : (w4.alloc (.cells #[.int .i64 (c2' : Nat)] TI)).cell? ⟨t, 1, none⟩ = some (.slice (some ⟨g2, o2, none⟩) (r2.length + 1) (0 + 1)) := cell_old ((Upd.refl _ _).alloc _) c1
          go_region_law (refine step_lane rfl _ _ 39 rfl TI i0 (.int .i64 0) Try.underlying39 hi hz0 hz1 hz2 rfl (Value.slice (some ⟨g2, o2, none⟩) r2.length 0) r2 rfl (HLT.out.upd (by repeat (first | with_reducible exact Upd.refl _ _ | with_reducible refine Upd.drew ?_ | with_reducible refine Upd.alloc ?_ _)) (fun _ _ h => h)) w4.heap.size 1 c2' rfl (new_cells w4 #[_] _ 0 _ rfl) hr2l ?_; intro ad6 c6 w6 hl6 hu6 hn6; have hu7 : Upd (fun k => (Value.slice (some ⟨g2, o2, none⟩) r2.length 0).ownBlock = some k) w4 w6 := Upd.trans (S := fun k => (Value.slice (some ⟨g2, o2, none⟩) r2.length 0).ownBlock = some k) (by repeat (first | with_reducible exact Upd.refl _ _ | with_reducible refine Upd.drew ?_ | with_reducible refine Upd.alloc ?_ _)) hu6 (fun _ _ h => h); have hn7 : ∀ k, (Value.slice ad6 (r2.length + 1) c6).ownBlock = some k → (Value.slice (some ⟨g2, o2, none⟩) (r2.length + 1) (0 + 1)).ownBlock = some k ∨ w4.heap.size ≤ k := (fun k hk => (hn6 k hk).imp (fun h => h) (fun h => by simp at h; omega)); obtain ⟨_, hb6, hset⟩ := H4b.out.rowT hu7 (fun k hk => .inl hk); have H6 := Lib.hid (hset hl6 hn7); have HU7 := Lib.hid (HU4b.out.trans hu7 (fun k hkw hk => HOW.out k hkw hk)); have HN7 := Lib.hid hn7; clear hset hu6 hl6 hn6 hu7 hn7; obtain ⟨k0', k1, k2, k3, y0, y1, y2, y3⟩ := cells4 hb6)
          all_goals
            go_wp2_with fail
            go_roundg f
            case measure => omega
            case rel =>
              have hon := HF2.out.on HROW.out HSTN.out
              have hms := meas_on HF2.out HROW.out HSTN.out
              have hsp := spin_on (q := q) (hd := hdOf its) (f := f) HROW.out HSTN.out
              have h9 : D ((w6.setCell ⟨t, 1, none⟩ (.slice ad6 (r2.length + 1) c6)).setCell ⟨t, 2, none⟩ (.bool false)) t gc cc n cnt (.slice ad6 (r2.length + 1) c6) ⟨r2 ++ [c2'], false, startCr q st2 c2'⟩ q rb rg its := H6.out.setB false
              have u9 : Upd (DrrOf t gc n rv rb rg) w ((w6.setCell ⟨t, 1, none⟩ (.slice ad6 (r2.length + 1) c6)).setCell ⟨t, 2, none⟩ (.bool false)) := (HU7.out.setCell (a := ⟨t, 1, none⟩) (fun _ => .inl rfl) _).setCell (a := ⟨t, 2, none⟩) (fun _ => .inl rfl) _
              refine ⟨⟨r2 ++ [c2'], false, startCr q st2 c2'⟩, .slice ad6 (r2.length + 1) c6, h9.old ⟨rfl, rfl, rfl, Nat.le_refl _, fun _ _ _ => rfl⟩, hon, by simp, by have := HM2.out; omega, by rw [← hsp]; exact HSP2.out, fun k hk => ?_, u9.trans (T := Nowhere) ⟨rfl, rfl, rfl, Nat.le_refl _, fun _ _ _ => rfl⟩ (fun _ _ h => h.elim)⟩
              rcases HN7.out k hk with h | h
              · exact HOV.out k h
              · have := HU4b.out.size; exact .inr (by omega)
        · have HLT := Lib.hid (show Lane TI w4 (.slice (some ⟨g2, o2 + 1, none⟩) r2.length cv) r2 by have h9 := HLTb.out; rw [if_neg hcv] at h9; exact h9)
          have c1a : (w4.alloc (.cells #[.int .i64 (c2' : Nat)] TI)).cell? ⟨t, 1, none⟩ = some (.slice (some ⟨g2, o2, none⟩) (r2.length + 1) (cv + 1)) := cell_old ((Upd.refl _ _).alloc _) c1
          go_region_law (refine step_lane rfl _ _ 39 rfl TI i0 (.int .i64 0) Try.underlying39 hi hz0 hz1 hz2 rfl (Value.slice (some ⟨g2, o2 + 1, none⟩) r2.length cv) r2 rfl (HLT.out.upd (by repeat (first | with_reducible exact Upd.refl _ _ | with_reducible refine Upd.drew ?_ | with_reducible refine Upd.alloc ?_ _)) (fun _ _ h => h)) w4.heap.size 1 c2' rfl (new_cells w4 #[_] _ 0 _ rfl) hr2l ?_; intro ad6 c6 w6 hl6 hu6 hn6; have hu7 : Upd (fun k => (Value.slice (some ⟨g2, o2 + 1, none⟩) r2.length cv).ownBlock = some k) w4 w6 := Upd.trans (S := fun k => (Value.slice (some ⟨g2, o2 + 1, none⟩) r2.length cv).ownBlock = some k) (by repeat (first | with_reducible exact Upd.refl _ _ | with_reducible refine Upd.drew ?_ | with_reducible refine Upd.alloc ?_ _)) hu6 (fun _ _ h => h); have hn7 : ∀ k, (Value.slice ad6 (r2.length + 1) c6).ownBlock = some k → (Value.slice (some ⟨g2, o2, none⟩) (r2.length + 1) (cv + 1)).ownBlock = some k ∨ w4.heap.size ≤ k := (fun k hk => (hn6 k hk).imp (fun h => h) (fun h => by simp at h; omega)); obtain ⟨_, hb6, hset⟩ := H4b.out.rowT hu7 (fun k hk => .inl hk); have H6 := Lib.hid (hset hl6 hn7); have HU7 := Lib.hid (HU4b.out.trans hu7 (fun k hkw hk => HOW.out k hkw hk)); have HN7 := Lib.hid hn7; clear hset hu6 hl6 hn6 hu7 hn7; obtain ⟨k0', k1, k2, k3, y0, y1, y2, y3⟩ := cells4 hb6)
          all_goals
            go_wp2_with fail
            go_roundg f
            case measure => omega
            case rel =>
              have hon := HF2.out.on HROW.out HSTN.out
              have hms := meas_on HF2.out HROW.out HSTN.out
              have hsp := spin_on (q := q) (hd := hdOf its) (f := f) HROW.out HSTN.out
              have h9 : D ((w6.setCell ⟨t, 1, none⟩ (.slice ad6 (r2.length + 1) c6)).setCell ⟨t, 2, none⟩ (.bool false)) t gc cc n cnt (.slice ad6 (r2.length + 1) c6) ⟨r2 ++ [c2'], false, startCr q st2 c2'⟩ q rb rg its := H6.out.setB false
              have u9 : Upd (DrrOf t gc n rv rb rg) w ((w6.setCell ⟨t, 1, none⟩ (.slice ad6 (r2.length + 1) c6)).setCell ⟨t, 2, none⟩ (.bool false)) := (HU7.out.setCell (a := ⟨t, 1, none⟩) (fun _ => .inl rfl) _).setCell (a := ⟨t, 2, none⟩) (fun _ => .inl rfl) _
              refine ⟨⟨r2 ++ [c2'], false, startCr q st2 c2'⟩, .slice ad6 (r2.length + 1) c6, h9.old ⟨rfl, rfl, rfl, Nat.le_refl _, fun _ _ _ => rfl⟩, hon, by simp, by have := HM2.out; omega, by rw [← hsp]; exact HSP2.out, fun k hk => ?_, u9.trans (T := Nowhere) ⟨rfl, rfl, rfl, Nat.le_refl _, fun _ _ _ => rfl⟩ (fun _ _ h => h.elim)⟩
              rcases HN7.out k hk with h | h
              · exact HOV.out k h
              · have := HU4b.out.size; exact .inr (by omega)
  case rest =>
    obtain ⟨rfl, rv2, hD, hF2, hle, hov, hu⟩ := hcut
    clear H0 HF0 HNE HSP HLn
    have hx := HX.out
    have hsz := hF2.siz c hcn (size, idn) (by rw [hx]; exact List.mem_cons_self ..)
    have hcb := hF2.cb c hcn
    rw [hdOf_cons hx] at hle
    simp only at hle hcb hsz
    obtain ⟨k0, hk0⟩ : ∃ x, cr c = x := ⟨_, rfl⟩
    rw [hk0] at hle hcb
    have HK0 := Lib.hid hk0
    have hln := hD.lane
    obtain ⟨g2, o2, cv, hv, hcell, hg2, hlt⟩ := hln.cons
    subst hv
    have HOV := Lib.hid hov
    have HU := Lib.hid hu
    have H1 := Lib.hid hD
    have hrbc := hD.rb_ hcn
    obtain ⟨c0, c1, c2, c3, z0, z1, z2, z3⟩ := cells4 hD.blk
    obtain ⟨fr, len, hP⟩ := hD.ring c hcn
    simp only [hx, elN_map] at hP
    have HT := Lib.hid (PairD.take_some wc (rb c) (rg c) 1024 fr len ((size : Int), idn) (tl.map fun (x : Nat × Int) => ((x.1 : Int), x.2)) hP)
    have j0 : (0 : Int) < (r.length : Int) + 1 := by omega
    clear hD hF2 hov hu hP hln hlt hk0 hx
    go_wp2_with fail
    refine (HT.out).mono ?_
    rintro e w3 ⟨rfl, ht⟩
    rw [← elN_map] at ht
    obtain ⟨g', hD3, hnew, hu3⟩ := H1.out.turn hcn ht
    rw [map_upd] at hD3
    go_upto_region 11 with fail
    have hX4 : Blk (w3.alloc (.cells #[.int .u64 (size : Nat), .int .i64 idn] TE)) w3.heap.size #[.int .u64 (size : Nat), .int .i64 idn] TE := Blk.new _ _ _
    have H4 := Lib.hid (hD3.old ((Upd.refl _ w3).alloc (.cells #[.int .u64 (size : Nat), .int .i64 idn] TE)))
    have HU4 := Lib.hid ((HU.out.trans hu3 (fun k hkw hk => by
      rcases hk with hk | hk | hk | hk
      · exact .inl hk
      · exact .inr (.inl hk)
      · exact (HOV.out k hk).elim (fun h => .inr (.inr (.inl h))) (fun h => absurd hkw (Nat.not_lt.2 h))
      · exact .inr (.inr (.inr hk)))).alloc (.cells #[.int .u64 (size : Nat), .int .i64 idn] TE))
    have hxlt : ∀ k, DrrOf t gc n (.slice (some ⟨g2, o2, none⟩) (r.length + 1) (cv + 1)) rb (upd rg c g') k → k ≠ w3.heap.size := fun k hk e => by have := hD3.lts hk; omega
    have HXL := Lib.hid hxlt
    have HNW := Lib.hid hnew
    have hszc := HU.out.size
    generalize w3.alloc (.cells #[.int .u64 (size : Nat), .int .i64 idn] TE) = w4 at *
    clear ht hD3 hnew hu3 hrbc c0 c1 c2 c3 z0 z1 z2 z3 hcell H1 HT hxlt HU
    obtain ⟨x0, x1, yx0, yx1⟩ := cells2 hX4
    have hcr : w4.cell? ⟨gc, c * 3 + 1, none⟩ = some (.int .u64 (cr c : Nat)) := H4.out.cr_ hcn
    rw [HK0.out] at hcr
    have zc := H4.out.cfree (c * 3 + 1)
    have e1 : IntKind.u64.wrap ((k0 : Int) - size) = ((k0 - size : Nat) : Int) := by rw [IntKind.wrap_u64]; omega
    have e2 : IntKind.i64.wrap ((cnt : Int) - 1) = ((cnt - 1 : Nat) : Int) := by rw [IntKind.wrap_i64]; omega
    refine wp_region_tail 9 (by kernel_rfl) (by kernel_rfl) ?_
    simp only [List.take_succ_cons, List.take_zero, List.drop_succ_cons, List.drop_zero]
    repeat (go_big_quiet_step (fail))
    refine wpQuiet_nil ?_
    rintro _ ⟨nq2, rfl⟩
    go_wp2
    refine Stage.out ?_
    go_upto_region 12 with fail
    have H5 := Lib.hid ((H4.out.old ((Upd.refl _ _).drewN nq2)).setC hcn (k0 - size))
    have HU5 := Lib.hid ((HU4.out.drewN nq2).setCell (a := ⟨gc, c * 3 + 1, none⟩) (fun _ => .inr (.inl rfl)) (.int .u64 ((k0 - size : Nat) : Int)))
    have hX5 := (hX4.drewN nq2).setOther (a := ⟨gc, c * 3 + 1, none⟩) (fun e => HXL.out gc (.inr (.inl rfl)) e.symm) (.int .u64 ((k0 - size : Nat) : Int))
    generalize (w4.drewN nq2).setCell ⟨gc, c * 3 + 1, none⟩ (.int .u64 ((k0 - size : Nat) : Int)) = w5 at *
    clear x0 x1 yx0 yx1 hcr zc H4 HU4 hX4
    obtain ⟨c0, c1, c2, c3, z0, z1, z2, z3⟩ := cells4 H5.out.blk
    go_upto_region 13 with fail
    have H6 := Lib.hid (H5.out.setN (cnt - 1))
    have HU6 := Lib.hid (HU5.out.setCell (a := ⟨t, 3, none⟩) (fun _ => .inl rfl) (.int .i64 ((cnt - 1 : Nat) : Int)))
    have hX6 := hX5.setOther (a := ⟨t, 3, none⟩) (fun e => HXL.out t (.inl rfl) e.symm) (.int .i64 ((cnt - 1 : Nat) : Int))
    generalize w5.setCell ⟨t, 3, none⟩ (.int .i64 ((cnt - 1 : Nat) : Int)) = w6 at *
    clear c0 c1 c2 c3 z0 z1 z2 z3 H5 HU5 hX5
    obtain ⟨c0, c1, c2, c3, z0, z1, z2, z3⟩ := cells4 H6.out.blk
    obtain ⟨x0, x1, yx0, yx1⟩ := cells2 hX6
    have hrbc := H6.out.rb_ hcn
    have zc := H6.out.cfree (c * 3 + 1)
    have ntg : ¬ t = gc := H6.out.tg
    have ngt : ¬ gc = t := fun e => H6.out.tg e.symm
    have nxt : ¬ w3.heap.size = t := fun e => HXL.out t (.inl rfl) e.symm
    have nxg : ¬ w3.heap.size = gc := fun e => HXL.out gc (.inr (.inl rfl)) e.symm
    have ntx : ¬ t = w3.heap.size := HXL.out t (.inl rfl)
    have ngx : ¬ gc = w3.heap.size := HXL.out gc (.inr (.inl rfl))
    obtain ⟨cc0, hcc0⟩ : ∃ y, w6.cell? ⟨gc, c * 3 + 1, none⟩ = some y := ⟨_, H6.out.cr_ hcn⟩
    obtain ⟨fr2, len2, hP2⟩ := H6.out.ring c hcn
    simp only [upd_at] at hP2
    have r2 := hP2.c2
    rw [List.length_map] at r2
    have hln := H6.out.lane
    obtain ⟨g2', o2', cv', hv, hcell, _, hlt⟩ := hln.cons
    cases hv
    clear hP2 hln
    have hup : upd (upd cr c (k0 - size)) c 0 = upd cr c 0 := by
      funext j; unfold upd; split <;> rfl
    have HUP := Lib.hid hup
    have HBL : Hid (∀ k, k = t ∨ k = gc ∨ (Value.slice (some ⟨g2, o2, none⟩) (r.length + 1) (cv + 1)).ownBlock = some k ∨ (∃ i, i < n ∧ RingOf (rb i) (upd rg c g' i) k) → DrrOf t gc n rv rb rg k ∨ w.heap.size ≤ k) := Lib.hid (fun k hk => by
      rcases HNW.out k hk with h | h
      · rcases h with h | h | h | h
        · exact .inl (.inl h)
        · exact .inl (.inr (.inl h))
        · exact (HOV.out k h).elim (fun h => .inl (.inr (.inr (.inl h)))) .inr
        · exact .inl (.inr (.inr (.inr h)))
      · exact .inr (by omega))
    clear hup
    cases tl with
    | nil =>
      by_cases hcv : cv = 0
      · subst hcv
        have HLT := Lib.hid (show Lane TI w6 (Value.slice (some ⟨g2, o2, none⟩) r.length 0) r from hlt)
        clear hlt
        go_wp2_with (go_at_call 55; refine (PairD.len_any _ _ _ r2).mono ?_; rintro e w' ⟨rfl, rfl⟩)
        go_quiet (fail)
        go_wp2_with fail
        rw [Exit.noGoto_ret]
        have h7 := H6.out.setC hcn 0
        have hl7 : Lane TI (w6.setCell ⟨gc, c * 3 + 1, none⟩ (.int .u64 (0 : Nat))) (Value.slice (some ⟨g2, o2, none⟩) r.length 0) r := HLT.out.upd (Upd.setCell (S := fun k => k = gc) (a := ⟨gc, c * 3 + 1, none⟩) (Upd.refl _ _) (fun _ => rfl) _) (fun k hk e => (H6.out.roff k hk).2.1 e)
        have h8 := (h7.setR hl7 (fun k hk => H6.out.roff k hk)).setB false
        refine bodyPost_ret (v := .tuple #[.int .i64 c, .int .u64 size, .int .i64 idn, .bool true]) (by simp [results, Try.results22, go_sem]) rfl ⟨rfl, Value.slice (some ⟨g2, o2, none⟩) r.length 0, upd rg c g', ?_, HBL.out, (((HU6.out.setCell (a := ⟨gc, c * 3 + 1, none⟩) (fun _ => .inr (.inl rfl)) _).setCell (a := ⟨t, 1, none⟩) (fun _ => .inl rfl) _).setCell (a := ⟨t, 2, none⟩) (fun _ => .inl rfl) _).drewN nq⟩
        have h9 := h8.old ((Upd.refl _ _).drewN nq)
        rw [HUP.out] at h9
        exact h9
      · have HLT := Lib.hid (show Lane TI w6 (Value.slice (some ⟨g2, o2 + 1, none⟩) r.length cv) r from (by rw [if_neg hcv] at hlt; exact hlt))
        clear hlt
        go_wp2_with (go_at_call 55; refine (PairD.len_any _ _ _ r2).mono ?_; rintro e w' ⟨rfl, rfl⟩)
        go_quiet (fail)
        go_wp2_with fail
        rw [Exit.noGoto_ret]
        have h7 := H6.out.setC hcn 0
        have hl7 : Lane TI (w6.setCell ⟨gc, c * 3 + 1, none⟩ (.int .u64 (0 : Nat))) (Value.slice (some ⟨g2, o2 + 1, none⟩) r.length cv) r := HLT.out.upd (Upd.setCell (S := fun k => k = gc) (a := ⟨gc, c * 3 + 1, none⟩) (Upd.refl _ _) (fun _ => rfl) _) (fun k hk e => (H6.out.roff k hk).2.1 e)
        have h8 := (h7.setR hl7 (fun k hk => H6.out.roff k hk)).setB false
        refine bodyPost_ret (v := .tuple #[.int .i64 c, .int .u64 size, .int .i64 idn, .bool true]) (by simp [results, Try.results22, go_sem]) rfl ⟨rfl, Value.slice (some ⟨g2, o2 + 1, none⟩) r.length cv, upd rg c g', ?_, HBL.out, (((HU6.out.setCell (a := ⟨gc, c * 3 + 1, none⟩) (fun _ => .inr (.inl rfl)) _).setCell (a := ⟨t, 1, none⟩) (fun _ => .inl rfl) _).setCell (a := ⟨t, 2, none⟩) (fun _ => .inl rfl) _).drewN nq⟩
        have h9 := h8.old ((Upd.refl _ _).drewN nq)
        rw [HUP.out] at h9
        exact h9
    | cons y tl =>
      have t1 : (((y :: tl).length : Int) == 0) = false := by simp; omega
      have t2 : ((tl.length : Int) + 1 == 0) = false := by simp; omega
      go_wp2_with (go_at_call 55; refine (PairD.len_any _ _ _ r2).mono ?_; rintro e w' ⟨rfl, rfl⟩)
      go_quiet (fail)
      go_wp2_with fail
      rw [Exit.noGoto_ret]
      refine bodyPost_ret (v := .tuple #[.int .i64 c, .int .u64 size, .int .i64 idn, .bool true]) (by simp [results, Try.results22, go_sem]) rfl ⟨rfl, .slice (some ⟨g2, o2, none⟩) (r.length + 1) (cv + 1), upd rg c g', ?_, HBL.out, HU6.out.drewN nq⟩
      have h9 := H6.out.old ((Upd.refl _ _).drewN nq)
      rw [← HK0.out] at h9
      exact h9
end Go.Proofs.Ytopibbaopglggaa.Drr
