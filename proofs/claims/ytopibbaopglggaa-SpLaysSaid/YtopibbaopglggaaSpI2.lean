/- sppifo's queues of int: Push. -/
import Derived.Test.YtopibbaopglggaaSpI
import Derived.Test.YtopibbaopglggaaSpPlain
import Derived.Deep.DeepCutAuto
import Derived.Outline
namespace Go.Proofs.Ytopibbaopglggaa.SpI
open Go.RowKit Go.Proofs BigFrame
open PairI (TR TE el)
set_option maxHeartbeats 2000000
set_option maxRecDepth 100000
theorem push_room (w : World) (s gq gb cq n room cnt : Nat) (rb : Nat → Nat) (rg : Nat → Option Nat) (bs : Nat → Nat) (qs : Nat → List (Int × Int)) (r : Nat) (x : Int)
    (h : SpIn TS TR TE PT TU w s gq gb cq n room cnt rb rg bs (fun i => (qs i).map el)) (hc : cnt < room) (hf : Fit n bs) (hr : r ≤ 18446744073709551615) (ht : tot qs n = cnt) :
    Calls Try.prog 15 #[.pointer (some ⟨s, 0, none⟩), .int .u64 r, Value.int .i64 x] w fun e w' => e = .returned (.tuple #[.int .i64 (pick bs r (n - 1) : Nat), .bool true]) ∧
      ∃ g', SpIn TS TR TE PT TU w' s gq gb cq n room (cnt + 1) rb (upd rg (pick bs r (n - 1)) g') (pushed bs r (pick bs r (n - 1))) (fun i => (upd qs (pick bs r (n - 1)) (qs (pick bs r (n - 1)) ++ [((r : Int), x)]) i).map el) ∧
        (∀ k, SpOf s gq gb n rb (upd rg (pick bs r (n - 1)) g') k → SpOf s gq gb n rb rg k ∨ w.heap.size ≤ k) ∧ Upd (SpOf s gq gb n rb rg) w w' := by
  obtain ⟨c0, c1, c2, c3, z0, z1, z2, z3⟩ := cells4 h.blk
  have t0 : decide ((cnt : Int) ≥ room) = false := decide_eq_false (by omega)
  have t1 : decide (room ≤ cnt) = false := decide_eq_false (by omega)
  have hnp := h.npos
  have hnl := h.nle
  have hrl := h.rle
  have e1 : IntKind.i64.wrap ((n : Int) - 1) = ((n - 1 : Nat) : Int) := by rw [IntKind.wrap_i64]; omega
  have H0 := Lib.hid h
  have HF := Lib.hid hf
  have HT := Lib.hid ht
  clear h hf ht
  go_enter Try.func15, Try.ntmps15
  go_wp2_with fail
  go_quiet (fail)
  have H1 := Lib.hid (H0.out.drewN nq)
  have hU1 : Upd Nowhere w (w.drewN nq) := (Upd.refl _ _).drewN nq
  have hsz : (w.drewN nq).heap.size = w.heap.size := rfl
  go_upto_block 0 with fail
  generalize w.drewN nq = w1 at *
  clear c0 c1 c2 c3 z0 z1 z2 z3 H0
  obtain ⟨c0, c1, c2, c3, z0, z1, z2, z3⟩ := cells4 H1.out.blk
  obtain ⟨p, hp⟩ : ∃ p, pick bs r (n - 1) = p := ⟨_, rfl⟩
  have hpn : p < n := by have := pick_le bs r (n - 1); omega
  go_cut [8] from 30 to 44 (fun a wx => a = .int .i64 p ∧ wx = w1)
  case first =>
    go_wp2_with fail
    go_loopw [8] (fun a wr => ∃ i, i ≤ n - 1 ∧ a = .int .i64 i ∧ pick bs r i = p ∧ wr = w1) (fun a _ => (intOf a).toNat)
    case atStart => exact ⟨n - 1, Nat.le_refl _, rfl, hp, rfl⟩
    case round =>
      obtain ⟨i, hi, rfl, hpi, rfl⟩ := hrel
      rcases Nat.eq_zero_or_pos i with rfl | hi0
      · have g0 : decide (((0 : Nat) : Int) > 0) = false := by decide
        go_wp2_with fail
        go_meet
        exact ⟨by rw [← hpi]; rfl, rfl⟩
      · have g0 : decide ((i : Int) > 0) = true := decide_eq_true (by omega)
        have g1 : (0 : Int) < i := by omega
        have g2 : (i : Int) < n := by omega
        have g3 : IntKind.i64.wrap ((i : Int) - 1) = ((i - 1 : Nat) : Int) := by rw [IntKind.wrap_i64]; omega
        have hb := H1.out.bcell (i := i) (by omega)
        by_cases hv : bs i ≤ r
        · have g4 : decide (r < bs i) = false := decide_eq_false (by omega)
          have hst := pick_stay_ hi0 hv
          go_wp2_with fail
          go_meet
          exact ⟨by rw [← hpi, hst], rfl⟩
        · have g4 : decide (r < bs i) = true := decide_eq_true (by omega)
          have hst := pick_down_ hi0 hv
          go_wp2_with fail
          go_roundw
          case rel => exact ⟨i - 1, by omega, rfl, by rw [← hst]; exact hpi, by first | rfl | trivial⟩
          case measure => simp [intOf]; omega
  case rest =>
    obtain ⟨rfl, hwx⟩ := hcut
    subst hwx
    have hb0 := H1.out.bcell (i := 0) hnp
    have gn : (0 : Int) < n := by omega
    have HP := Lib.hid hp
    clear hp
    by_cases hA : p = 0 ∧ r < bs 0
    · obtain ⟨hp0, hA⟩ := hA
      subst hp0
      have e2 : IntKind.u64.wrap ((bs 0 : Int) - (r : Int)) = ((bs 0 - r : Nat) : Int) := by have := HF.out.b64 0 hnp; rw [IntKind.wrap_u64]; omega
      have g5 : decide (r < bs 0) = true := decide_eq_true hA
      go_wp2_with fail
      go_loopw [63] (fun a wr => ∃ k, k ≤ n ∧ a = .int .i64 k ∧ SpIn TS TR TE PT TU wr s gq gb cq n room cnt rb rg (mix bs r k) (fun i => (qs i).map el) ∧ Upd (fun q => q = gb) wc wr) (fun a _ => n - (intOf a).toNat)
      case atStart => exact ⟨0, by omega, rfl, by rw [mix_zero]; exact H1.out, Upd.refl _ _⟩
      case round =>
        clear c0 c1 c2 c3 z0 z1 z2 z3 hb0
        obtain ⟨k, hk, rfl, h2, hug⟩ := hrel
        obtain ⟨c0, c1, c2, c3, z0, z1, z2, z3⟩ := cells4 h2.blk
        have H2 := Lib.hid h2
        clear h2
        by_cases hlt : k < n
        · have g6 : (k : Int) < n := by omega
          have hbk := H2.out.bcell hlt
          rw [mix_at] at hbk
          have zk := H2.out.bfree k
          have e3 : IntKind.u64.wrap ((bs k : Int) - ((bs 0 - r : Nat) : Int)) = ((bs k - (bs 0 - r) : Nat) : Int) := by have := HF.out.b64 k hlt; have := HF.out.mono 0 k (Nat.zero_le _) hlt; rw [IntKind.wrap_u64]; omega
          go_wp2_with fail
          go_roundw
          case rel => exact ⟨k + 1, by omega, by go_num, by rw [← mix_step]; exact H2.out.setB hlt _, hug.setCell (a := ⟨gb, k, none⟩) (fun _ => rfl) _⟩
          case measure => simp [intOf]; omega
        · have hkn : k = n := by omega
          have g6 : ¬ (k : Int) < n := by omega
          obtain ⟨w2, rfl⟩ : ∃ x, x = wr := ⟨_, rfl⟩
          have hUg : Upd (SpOf s gq gb n rb rg) wc w2 := hug.mono (fun k _ h => .inr (.inr (.inl h)))
          obtain ⟨d0, d1, d2, d3, y0, y1, y2, y3⟩ := cells4 H2.out.blk
          have hp := H2.out.pcell hpn
          obtain ⟨fr, len, hPR⟩ := H2.out.ring 0 hpn
          have hI : ((0 : Nat) : Int) < n := by omega
          have hput := Lib.hid (PairI.put_room w2 (rb 0) (rg 0) room fr len (qs 0) ((r : Int), x) hPR (by have := tot_le qs hpn; have := HT.out; omega))
          clear hPR
          go_wp2_with fail
          refine hput.out.mono ?_
          rintro e w3 ⟨rfl, ht3⟩
          obtain ⟨g', h3, hnew, hu3⟩ := H2.out.turn hpn ht3
          obtain ⟨f0, f1, f2, f3, x0, x1, x2, x3⟩ := cells4 h3.blk
          have H3 := Lib.hid (h3.setN (cnt + 1))
          have HU := Lib.hid (show Upd (SpOf s gq gb n rb rg) w w3 from (hU1.any _).trans (hUg.trans hu3 (fun _ _ h => h)) (fun _ _ h => h))
          have HN := Lib.hid hnew
          have hsz2 := hUg.size
          clear h3 hnew hu3 ht3 hput d0 d1 d2 d3 y0 y1 y2 y3 hp
          go_wp2_with fail
          go_ret2
          rw [HP.out]
          refine ⟨rfl, g', ?_, fun k hk => (HN.out k hk).imp id (fun h => by omega), HU.out.setCell (a := ⟨s, 3, none⟩) (fun _ => .inl rfl) _⟩
          rw [← upd_map]
          have e : SpIn TS TR TE PT TU (w3.setCell ⟨s, 3, none⟩ (.int .i64 ((cnt + 1 : Nat) : Int))) s gq gb cq n room (cnt + 1) rb _ (pushed bs r 0) _ := H3.out.congrB (fun i hi => by unfold mix pushed; rw [if_pos (by omega), if_pos ⟨rfl, hA⟩])
          exact e
    · rcases Nat.eq_zero_or_pos p with hp0 | hp0
      · subst hp0
        have g5 : decide (r < bs 0) = false := decide_eq_false (fun h => hA ⟨rfl, h⟩)
        have n1 : ¬ s = gb := H1.out.sb
        have n2 : ¬ gb = s := fun e => H1.out.sb e.symm
        have n3 : ¬ gb = gq := H1.out.bq
        have n4 : ¬ gq = gb := fun e => H1.out.bq e.symm
        have zp := H1.out.bfree 0
        have hyb := H1.out.bcell (i := 0) hpn
        have hpc := H1.out.pcell (i := 0) hpn
        have hI : (((0 : Nat) : Int) : Int) < n := by omega
        have H2 := Lib.hid (H1.out.setB (i := 0) hpn r)
        have hUg : Upd (SpOf s gq gb n rb rg) wc (wc.setCell ⟨gb, 0, none⟩ (.int .u64 r)) := Upd.setCell (S := SpOf s gq gb n rb rg) (Upd.refl _ _) (fun _ => .inr (.inr (.inl rfl))) _
        have hsz2 := hUg.size
        obtain ⟨fr, len, hPR⟩ := H2.out.ring 0 hpn
        have hput := Lib.hid (PairI.put_room _ (rb 0) (rg 0) room fr len (qs 0) ((r : Int), x) hPR (by have := tot_le qs hpn; have := HT.out; omega))
        clear hPR
        go_wp2_with fail
        refine hput.out.mono ?_
        rintro e w3 ⟨rfl, ht3⟩
        obtain ⟨g', h3, hnew, hu3⟩ := H2.out.turn hpn ht3
        clear c0 c1 c2 c3 z0 z1 z2 z3
        obtain ⟨f0, f1, f2, f3, x0, x1, x2, x3⟩ := cells4 h3.blk
        have H3 := Lib.hid (h3.setN (cnt + 1))
        have HU := Lib.hid (show Upd (SpOf s gq gb n rb rg) w w3 from (hU1.any _).trans (hUg.trans hu3 (fun _ _ h => h)) (fun _ _ h => h))
        have HN := Lib.hid hnew
        clear h3 hnew hu3 ht3 hput hyb hpc zp hb0
        go_wp2_with fail
        go_ret2
        rw [HP.out]
        refine ⟨rfl, g', ?_, fun k hk => (HN.out k hk).imp id (fun h => by omega), HU.out.setCell (a := ⟨s, 3, none⟩) (fun _ => .inl rfl) _⟩
        rw [← upd_map]
        have e : SpIn TS TR TE PT TU (w3.setCell ⟨s, 3, none⟩ (.int .i64 ((cnt + 1 : Nat) : Int))) s gq gb cq n room (cnt + 1) rb _ (pushed bs r 0) _ := H3.out.congrB (fun i hi => by unfold pushed; rw [if_neg (fun h => of_decide_eq_false g5 h.2)])
        exact e
      · have g5 : ((p : Int) == 0) = false := by simp; omega
        have n1 : ¬ s = gb := H1.out.sb
        have n2 : ¬ gb = s := fun e => H1.out.sb e.symm
        have n3 : ¬ gb = gq := H1.out.bq
        have n4 : ¬ gq = gb := fun e => H1.out.bq e.symm
        have zp := H1.out.bfree p
        have hyb := H1.out.bcell (i := p) hpn
        have hpc := H1.out.pcell (i := p) hpn
        have hI : ((p : Int) : Int) < n := by omega
        have H2 := Lib.hid (H1.out.setB (i := p) hpn r)
        have hUg : Upd (SpOf s gq gb n rb rg) wc (wc.setCell ⟨gb, p, none⟩ (.int .u64 r)) := Upd.setCell (S := SpOf s gq gb n rb rg) (Upd.refl _ _) (fun _ => .inr (.inr (.inl rfl))) _
        have hsz2 := hUg.size
        obtain ⟨fr, len, hPR⟩ := H2.out.ring p hpn
        have hput := Lib.hid (PairI.put_room _ (rb p) (rg p) room fr len (qs p) ((r : Int), x) hPR (by have := tot_le qs hpn; have := HT.out; omega))
        clear hPR
        go_wp2_with fail
        refine hput.out.mono ?_
        rintro e w3 ⟨rfl, ht3⟩
        obtain ⟨g', h3, hnew, hu3⟩ := H2.out.turn hpn ht3
        clear c0 c1 c2 c3 z0 z1 z2 z3
        obtain ⟨f0, f1, f2, f3, x0, x1, x2, x3⟩ := cells4 h3.blk
        have H3 := Lib.hid (h3.setN (cnt + 1))
        have HU := Lib.hid (show Upd (SpOf s gq gb n rb rg) w w3 from (hU1.any _).trans (hUg.trans hu3 (fun _ _ h => h)) (fun _ _ h => h))
        have HN := Lib.hid hnew
        clear h3 hnew hu3 ht3 hput hyb hpc zp hb0
        go_wp2_with fail
        go_ret2
        rw [HP.out]
        refine ⟨rfl, g', ?_, fun k hk => (HN.out k hk).imp id (fun h => by omega), HU.out.setCell (a := ⟨s, 3, none⟩) (fun _ => .inl rfl) _⟩
        rw [← upd_map]
        have e : SpIn TS TR TE PT TU (w3.setCell ⟨s, 3, none⟩ (.int .i64 ((cnt + 1 : Nat) : Int))) s gq gb cq n room (cnt + 1) rb _ (pushed bs r p) _ := H3.out.congrB (fun i hi => by unfold pushed; rw [if_neg (fun h => by omega)])
        exact e
end Go.Proofs.Ytopibbaopglggaa.SpI
