/- sppifo's queues of int: first, Pop, Len. -/
import Derived.Test.YtopibbaopglggaaSpI2
namespace Go.Proofs.Ytopibbaopglggaa.SpI
open Go.RowKit Go.Proofs BigFrame
open PairI (TR TE el)
set_option maxHeartbeats 2000000
set_option maxRecDepth 100000
theorem len_any (w : World) (s gq gb cq n room cnt : Nat) (rb : Nat → Nat) (rg : Nat → Option Nat) (bs : Nat → Nat) (qs : Nat → List (Value × Value))
    (h : SpIn TS TR TE PT TU w s gq gb cq n room cnt rb rg bs qs) :
    Calls Try.prog 17 #[.pointer (some ⟨s, 0, none⟩)] w fun e w' => e = .returned (.int .i64 cnt) ∧ w = w' := by
  obtain ⟨c0, c1, c2, c3, z0, z1, z2, z3⟩ := cells4 h.blk
  clear h
  go_enter Try.func17, Try.ntmps17
  go_wp2
  go_ret
  exact ⟨rfl, rfl⟩
theorem first_any (w : World) (s gq gb cq n room cnt : Nat) (rb : Nat → Nat) (rg : Nat → Option Nat) (bs : Nat → Nat) (qs : Nat → List (Int × Int)) (i : Nat)
    (h : SpIn TS TR TE PT TU w s gq gb cq n room cnt rb rg bs (fun i => (qs i).map el)) (hi : i ≤ n) (hl : ∀ j, j < i → (qs j).length = 0) (hne : i < n → 0 < (qs i).length) (v : Value) (hv1 : i < n → v = .pointer (some ⟨rb i, 0, none⟩)) (hv2 : i = n → v = .pointer none) :
    Calls Try.prog 50 #[.pointer (some ⟨s, 0, none⟩)] w fun e w' => e = .returned v ∧ w = w' := by
  obtain ⟨c0, c1, c2, c3, z0, z1, z2, z3⟩ := cells4 h.blk
  have H := Lib.hid h
  have HL := Lib.hid hl
  have HE := Lib.hid hne
  have HV1 := Lib.hid hv1
  have HV2 := Lib.hid hv2
  have hnl := h.nle
  clear h hl hne hv1 hv2
  go_enter Try.func50, Try.ntmps50
  go_wp2_with fail
  go_loopw [12] (fun a wr => ∃ k, k ≤ i ∧ a = .int .i64 k ∧ wr = w) (fun a _ => n - (intOf a).toNat)
  case atStart => exact ⟨0, by omega, rfl, rfl⟩
  case round =>
    obtain ⟨k, hk, rfl, rfl⟩ := hrel
    by_cases hlt : k < n
    · have g1 : (k : Int) < n := by omega
      have hp := H.out.pcell hlt
      obtain ⟨fr, len, hPR⟩ := H.out.ring k hlt
      have h2 := hPR.c2
      rw [List.length_map] at h2
      clear hPR
      by_cases hki : k = i
      · subst hki
        have hpos := HE.out hlt
        have g2 : decide ((((qs k).length : Nat) : Int) > 0) = true := decide_eq_true (by omega)
        have g3 : decide (0 < (qs k).length) = true := decide_eq_true hpos
        have g4 : (0 : Int) < (((qs k).length : Nat) : Int) := by omega
        have hv := HV1.out hlt
        generalize (qs k).length = m at *
        go_wp2_with (go_at_call 81; refine (PairI.len_any _ _ _ h2).mono ?_; rintro e w' ⟨rfl, rfl⟩)
        go_ret
        exact ⟨by rw [hv]; rfl, rfl⟩
      · have hz := HL.out k (by omega)
        rw [hz] at h2
        go_wp2_with (go_at_call 81; refine (PairI.len_any _ _ _ h2).mono ?_; rintro e w' ⟨rfl, rfl⟩)
        go_roundw
        case rel => exact ⟨k + 1, by omega, by go_num, by first | rfl | trivial⟩
        case measure => simp [intOf]; omega
    · obtain rfl : k = n := by omega
      have hv := HV2.out (by omega)
      have g1 : ¬ (k : Int) < k := by omega
      go_wp2_with fail
      go_ret
      exact ⟨rfl, rfl⟩
/-- Pop, where something waits. -/
theorem pop_some (w : World) (s gq gb cq n room cnt : Nat) (rb : Nat → Nat) (rg : Nat → Option Nat) (bs : Nat → Nat) (qs : Nat → List (Int × Int)) (i : Nat) (x0 : Int) (x1 : Int) (t : List (Int × Int))
    (h : SpIn TS TR TE PT TU w s gq gb cq n room cnt rb rg bs (fun i => (qs i).map el)) (hi : i < n) (hl : ∀ j, j < i → (qs j).length = 0) (hx : qs i = (x0, x1) :: t) (hc : 0 < cnt) (hr : cnt ≤ room) :
    Calls Try.prog 16 #[.pointer (some ⟨s, 0, none⟩)] w fun e w' => e = .returned (.tuple #[.int .u64 x0, Value.int .i64 x1, .bool true]) ∧
      ∃ g', SpIn TS TR TE PT TU w' s gq gb cq n room (cnt - 1) rb (upd rg i g') bs (fun j => (upd qs i t j).map el) ∧
        (∀ k, SpOf s gq gb n rb (upd rg i g') k → SpOf s gq gb n rb rg k ∨ w.heap.size ≤ k) ∧ Upd (SpOf s gq gb n rb rg) w w' := by
  have hf := first_any w s gq gb cq n room cnt rb rg bs qs i h (by omega) hl (fun _ => by rw [hx]; simp) _ (fun _ => rfl) (fun e => by omega)
  have HF := Lib.hid hf
  have hrl := h.rle
  obtain ⟨fr, len, hPR⟩ := h.ring i hi
  simp only [hx] at hPR
  have HT := Lib.hid (PairI.take_some w (rb i) (rg i) room fr len (x0, x1) t hPR)
  have H := Lib.hid h
  have e1 : IntKind.i64.wrap ((cnt : Int) - 1) = ((cnt - 1 : Nat) : Int) := by rw [IntKind.wrap_i64]; omega
  clear hf hPR h hl hx
  go_enter Try.func16, Try.ntmps16
  go_wp2_with fail
  refine HF.out.mono ?_
  rintro e w' ⟨rfl, rfl⟩
  go_wp2_with fail
  refine HT.out.mono ?_
  rintro e w3 ⟨rfl, ht3⟩
  obtain ⟨g', h3, hnew, hu3⟩ := H.out.turn hi ht3
  have hlt : s < w3.heap.size := h3.lts (.inl rfl)
  obtain ⟨f0, f1, f2, f3, y0, y1, y2, y3⟩ := cells4 h3.blk
  have H5 := Lib.hid (h3.setN (cnt - 1))
  have HU := Lib.hid (hu3.setCell (a := ⟨s, 3, none⟩) (fun _ => .inl rfl) (.int .i64 ((cnt - 1 : Nat) : Int)))
  have HN := Lib.hid hnew
  clear h3 hnew hu3 ht3 HF HT H
  go_wp2_with fail
  go_quiet (fail)
  go_wp2_with fail
  go_ret3
  refine ⟨rfl, g', ?_, HN.out, (HU.out.alloc _).drewN _⟩
  rw [← upd_map]
  exact (H5.out.old ((Upd.refl _ _).alloc _)).drewN _
/-- Pop, where nothing waits. -/
theorem pop_none (w : World) (s gq gb cq n room cnt : Nat) (rb : Nat → Nat) (rg : Nat → Option Nat) (bs : Nat → Nat) (qs : Nat → List (Int × Int))
    (h : SpIn TS TR TE PT TU w s gq gb cq n room cnt rb rg bs (fun i => (qs i).map el)) (hl : ∀ j, j < n → (qs j).length = 0) :
    Calls Try.prog 16 #[.pointer (some ⟨s, 0, none⟩)] w fun e w' => e = .returned (.tuple #[.int .u64 0, Value.int .i64 0, .bool false]) ∧ Upd Nowhere w w' := by
  have HF := Lib.hid (first_any w s gq gb cq n room cnt rb rg bs qs n h (Nat.le_refl _) hl (fun h => by omega) _ (fun h => by omega) (fun _ => rfl))
  have HT := fun u => Lib.hid (PairI.take_nil u)
  clear h hl
  go_enter Try.func16, Try.ntmps16
  go_wp2_with fail
  refine HF.out.mono ?_
  rintro e w' ⟨rfl, rfl⟩
  go_wp2_with fail
  refine (HT _).out.mono ?_
  rintro e w3 ⟨rfl, u3⟩
  go_wp2_with fail
  go_quiet (fail)
  go_wp2_with fail
  go_ret3
  exact ⟨rfl, (u3.alloc _).drewN _⟩
end Go.Proofs.Ytopibbaopglggaa.SpI
