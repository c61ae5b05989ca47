/- wheel: Next. -/
import Derived.Test.YtjbaibnmbeabnaaDoorWheelHas
namespace Go.Proofs.YtjbaibnmbeabnaaDoor.Wheel
open Go.RowKit Go.Proofs BigFrame Heap
set_option maxHeartbeats 4000000
set_option maxRecDepth 1000000
theorem keep2 {w w' B : World} {a0 a1 : Addr} {v0 v1 : Value} (y : Upd Nowhere w w') (h : Upd Nowhere B w ∧ w.cell? a0 = some v0 ∧ w.cell? a1 = some v1) : Upd Nowhere B w' ∧ w'.cell? a0 = some v0 ∧ w'.cell? a1 = some v1 := by
  obtain ⟨hu, h0, h1⟩ := h
  exact ⟨hu.trans y (fun _ _ h => h), cell_old y h0, cell_old y h1⟩
theorem keepM2 {P : Program} {f : FuncId} {args : Array Value} {w B : World} {v : Value} {a0 a1 : Addr} {v0 v1 : Value} (h : Calls P f args w fun e w' => e = .returned v ∧ Upd Nowhere w w') (hS : Upd Nowhere B w ∧ w.cell? a0 = some v0 ∧ w.cell? a1 = some v1) :
    Calls P f args w fun e w' => e = .returned v ∧ Upd Nowhere w w' ∧ (Upd Nowhere B w' ∧ w'.cell? a0 = some v0 ∧ w'.cell? a1 = some v1) := h.mono fun _ _ ⟨x, y⟩ => ⟨x, y, keep2 y hS⟩
theorem next_none {A : Nat → Prop} {w0 w : World} {b now came room : Nat} (h : HasW A w0 w b now came room []) :
    Calls Tryd.prog 28 #[.pointer (some ⟨b, 0, none⟩)] w fun e w' => e = .returned (.tuple #[.int .u64 0, .bool false]) ∧ w = w' := by
  have HL := Lib.hid (hasW_len h)
  clear h
  go_enter Tryd.func28, Tryd.ntmps28
  go_wp2_with fail
  refine (HL.out).mono ?_
  rintro e w' ⟨rfl, rfl⟩
  go_wp2_with fail
  go_ret2
  exact ⟨rfl, rfl⟩
theorem next_some {A : Nat → Prop} {w0 w : World} {b now came room : Nat} {a : En} {s : List En} (h : HasW A w0 w b now came room (a :: s)) (hT : Tab w) :
    Calls Tryd.prog 28 #[.pointer (some ⟨b, 0, none⟩)] w fun e w' => e = .returned (.tuple #[.int .u64 (a.1 : Nat), .bool true]) ∧ Upd Nowhere w w' := by
  have HL := Lib.hid (hasW_len h)
  have hba := h.old_all.2.2 a (List.mem_cons_self ..)
  have hord := h.old_all.2.1
  obtain ⟨vs, qs, us, h1, hs, hm, h4, h5, h6⟩ := h
  have hall : (all qs).length ≤ 999999 := by have := hm.len; simp only [List.length_cons] at *; omega
  have hn0 : ((((a :: s).length : Nat) : Int) == 0) = false := by simp; omega
  obtain ⟨N, hN⟩ : ∃ N, (a :: s).length = N := ⟨_, rfl⟩
  rw [hN] at HL hn0
  obtain ⟨c1, z1⟩ := h1.at_row isRow_late
  obtain ⟨lv, hlv⟩ : ∃ v, vs 715 = v := ⟨_, rfl⟩
  have hrl := h1.row 715 isRow_late
  rw [hlv] at c1 hrl
  have HLE := fun u (hu : Upd Nowhere w u) => Lib.hid (least_any u (ownsRow_upd hrl hu (fun _ _ h => h)) (Nat.le_trans (len_all isRow_late) hall) (hs.big 715 isRow_late))
  by_cases hz : qs 715 = []
  · rw [hz] at HLE
    simp only [List.length_nil] at HLE
    have d0 : decide (0 < 0) = false := by decide
    rw [d0] at HLE
    obtain ⟨l0, i0, hl0, hi0, hne⟩ : ∃ l i, l < 11 ∧ i < 64 ∧ qs (l * 65 + 1 + i) ≠ [] := by
      obtain ⟨o, ho, hao⟩ := mem_all.1 (hm.perm.mem_iff.1 (List.mem_cons_self ..))
      rcases isRow_cases ho with rfl | ⟨l, i, hl, hi, rfl⟩
      · rw [hz] at hao; cases hao
      · exact ⟨l, i, hl, hi, fun e => by rw [e] at hao; cases hao⟩
    have hu0 : us l0 ≠ 0 := fun e => by
      have := (hs.bit l0 i0 hl0 hi0).2 hne
      rw [e, Nat.zero_testBit] at this; cases this
    have H1 := Lib.hid h1
    have HS := Lib.hid hs
    have HM := Lib.hid hm
    have HZ := Lib.hid hz
    have HT := Lib.hid hT
    have HO := Lib.hid hord
    have HALL := Lib.hid hall
    clear h1 hs hm hz hT hord hN hrl hne h4 hlv hall
    go_enter Tryd.func28, Tryd.ntmps28
    go_wp2_with fail
    refine (HL.out).mono ?_
    rintro e w' ⟨rfl, rfl⟩
    go_wp2_with fail
    refine ((HLE _ (Upd.refl _ _)).out).mono ?_
    rintro e w1 ⟨rfl, u1⟩
    have HU1 := Lib.hid u1
    clear u1 c1 z1
    go_wp2_with fail
    go_loopw [6] (fun lv wr => ∃ (l : Nat), l ≤ l0 ∧ lv = .int .i64 l ∧ (∀ m, m < l → us m = 0) ∧ wr = w1) (fun lv _ => l0 - (intOf lv).toNat)
    case atStart => exact ⟨0, by omega, rfl, fun m hm => by omega, rfl⟩
    case round =>
      obtain ⟨l, hl, rfl, hlow, rfl⟩ := hrel
      obtain ⟨wB, rfl⟩ : ∃ x, x = wr := ⟨_, rfl⟩
      have hl11 : l < 11 := by omega
      have p1 : (l : Int) < 11 := by omega
      have HB := Lib.hid (H1.out.old HU1.out)
      obtain ⟨c2, z2⟩ := HB.out.at_used hl11
      obtain ⟨u, hu⟩ : ∃ u, us l = u := ⟨_, rfl⟩
      rw [hu] at c2
      by_cases huz : u = 0
      · subst huz
        have hll : l ≠ l0 := fun e => hu0 (by rw [← e]; exact hu)
        have HLOW : Hid (∀ m, m < l + 1 → us m = 0) := Lib.hid (fun m hm => by
          rcases Nat.lt_or_ge m l with h9 | h9
          · exact hlow m h9
          · obtain rfl : m = l := by omega
            exact hu)
        clear hlow hu
        go_wp2_with fail
        go_roundw
        case rel => exact ⟨l + 1, by omega, by go_num, HLOW.out, (by first | trivial | rfl)⟩
        case measure => simp [intOf]; omega
      · have n1 : ((u : Int) == 0) = false := by simp; omega
        have hub : u < 2 ^ 64 := by rw [← hu]; exact HS.out.ub l hl11
        obtain ⟨l4, l4', l5, _, _⟩ := ctz_bits huz hub
        have HTZ := fun w' (hw : Upd Nowhere w w') => Lib.hid (tz_any u hub w' (HT.out.old hw id))
        obtain ⟨i, hi⟩ : ∃ i, Lib.ctz 64 u = i := ⟨_, rfl⟩
        rw [hi] at HTZ l4 l4' l5
        have p2 : (i : Int) < 64 := by omega
        have ho := isRow_slot hl11 l5
        obtain ⟨c3, z3⟩ := HB.out.at_row ho
        obtain ⟨v, hv⟩ : ∃ v, vs (l * 65 + 1 + i) = v := ⟨_, rfl⟩
        have hro := HB.out.row _ ho
        rw [hv] at c3 hro
        have hne : qs (l * 65 + 1 + i) ≠ [] := (HS.out.bit l i hl11 l5).1 (by rw [hu]; exact l4)
        have hlst := HS.out.lies.least_slot HM.out.perm HO.out hba HZ.out hl11 l5 hne (fun m j hm hj => by
          have h8 := HS.out.bit m j (by omega) hj
          rw [hlow m hm, Nat.zero_testBit] at h8
          exact Classical.byContradiction fun h7 => Bool.noConfusion (h8.2 h7)) (fun j hj => by
          have h8 := HS.out.bit l j hl11 (by omega)
          rw [hu, l4' j hj] at h8
          exact Classical.byContradiction fun h7 => Bool.noConfusion (h8.2 h7))
        have hpos : decide (0 < (qs (l * 65 + 1 + i)).length) = true := decide_eq_true (List.length_pos_iff.2 hne)
        have HLS := fun w' (hw : Upd Nowhere wB w') => Lib.hid (least_any w' (ownsRow_upd hro hw (fun _ _ h => h)) (Nat.le_trans (len_all ho) HALL.out) (HS.out.big _ ho))
        rw [hlst, hpos] at HLS
        have hS0 := (Upd.refl Nowhere wB).drew
        clear hlst hpos hne hlow hu l4 l4' hi hv hro
        go_wp2_with fail
        go_region_held3 (fun w' => Upd Nowhere wB w' ∧ w'.cell? ⟨b, l * 65, none⟩ = some (.int .u64 (u : Nat)) ∧ w'.cell? ⟨b, l * 65 + 1 + i, none⟩ = some v) (first | exact ⟨hS0, c2, c3⟩ | assumption | exact keep2 (by repeat (first | with_reducible exact Upd.refl _ _ | with_reducible refine Upd.drew ?_)) ⟨Upd.refl _ _, c2, c3⟩) (first | (go_at_call 58; refine (HTZ _ (HU1.out.trans (show Upd Nowhere wB _ from (by repeat (first | with_reducible exact Upd.refl _ _ | with_reducible refine Upd.drew ?_))) (fun _ _ h => h))).out.mono ?_; rintro e w9 ⟨rfl, rfl⟩) | (go_at_call 57; refine (keepM2 (HLS _ (show Upd Nowhere wB _ from (by repeat (first | with_reducible exact Upd.refl _ _ | with_reducible refine Upd.drew ?_)))).out (by assumption)).mono ?_; rintro e w9 ⟨rfl, u9, hS9⟩))
        all_goals
          rename_i hSF
          have hUF := HU1.out.trans hSF.1 (fun _ _ h => h)
          clear hSF
          go_wp2_with fail
          go_ret2
          exact ⟨rfl, hUF⟩
  · have hlst := hs.lies.least_late hm.perm hord hba hz
    have hpos : decide (0 < (qs 715).length) = true := decide_eq_true (List.length_pos_iff.2 hz)
    rw [hlst, hpos] at HLE
    clear h1 hs hm hz hlst hpos hrl hlv hN hord hT hall
    go_enter Tryd.func28, Tryd.ntmps28
    go_wp2_with fail
    refine (HL.out).mono ?_
    rintro e w' ⟨rfl, rfl⟩
    go_wp2_with fail
    refine ((HLE _ (Upd.refl _ _)).out).mono ?_
    rintro e w1 ⟨rfl, u1⟩
    go_wp2_with fail
    go_ret2
    exact ⟨rfl, u1⟩
end Go.Proofs.YtjbaibnmbeabnaaDoor.Wheel
