/- The reference's gate: Offer. -/
import Derived.Test.YtgppbclgabdkoaaRef13
import Derived.Deep.DeepCutAuto
namespace Go.Proofs.Ytgppbclgabdkoaa.Aifo
open Go.RowKit Go.Proofs BigFrame
open RingU (TR TE)
set_option maxHeartbeats 4000000
set_option maxRecDepth 1000000
/-- What stays of the first k ranks of a window. -/
def partOf (most : Nat) (win : List Int) (k : Nat) : List Int := if win.length < most then win.take k else (win.take k).tail
theorem partOf_all (most : Nat) (win : List Int) : partOf most win win.length = slid most win := by
  unfold partOf slid; rw [List.take_of_length_le (Nat.le_refl _)]
theorem partOf_len (most : Nat) (win : List Int) (k : Nat) : (partOf most win k).length ≤ k := by
  unfold partOf; split <;> simp <;> omega
theorem partOf_more {most : Nat} {win : List Int} {k : Nat} {x : Int} (hx : win[k]? = some x) (h : 0 < k ∨ win.length < most) : partOf most win (k + 1) = partOf most win k ++ [x] := by
  have e : win.take (k + 1) = win.take k ++ [x] := by rw [List.take_add_one, hx]; rfl
  unfold partOf
  rw [e]
  split
  · rfl
  · rename_i hn
    have hk : 0 < k := by omega
    have hkl : k < win.length := by
      rcases Nat.lt_or_ge k win.length with h | h
      · exact h
      · rw [List.getElem?_eq_none h] at hx; cases hx
    cases h2 : win.take k with
    | nil => have := congrArg List.length h2; rw [List.length_take, List.length_nil] at this; omega
    | cons a r => rfl
theorem partOf_skip {most : Nat} {win : List Int} (h : ¬ win.length < most) : partOf most win 1 = partOf most win 0 := by
  unfold partOf
  rw [if_neg h, if_neg h]
  cases win <;> rfl
theorem roffer_any {w : World} {b room most wait num den : Nat} {win : List Int} {wv : Value} (h : RefIn w b room most wait num den win wv) (rank : Nat) :
    Calls Try.prog 12 #[.pointer (some ⟨b, 0, none⟩), .int .u64 rank] w fun e w' => e = .returned (.bool (mayB room wait num den win rank)) ∧
      ∃ wv', RefIn w' b room most (if mayB room wait num den win rank then wait + 1 else wait) num den (slid most win ++ [(rank : Int)]) wv' ∧ NewRow w wv' ∧ Upd (fun k => k = b) w w' := by
  obtain ⟨i0, hi, hz0, hz1, hz2⟩ := info_parts infoU
  obtain ⟨c0, c1, c2, c3, c4, c5, z0, z1, z2, z3, z4, z5⟩ := cells6 h.blk
  have hmay := rmay_any h rank
  obtain ⟨mb, hmb, hmw⟩ : ∃ mb, mayB room wait num den win rank = mb ∧ (mb = true → wait < room) := ⟨_, rfl, fun h => (of_decide_eq_true h).1⟩
  rw [hmb] at hmay ⊢
  obtain ⟨wa, hwa⟩ : ∃ t, (if mb then wait + 1 else wait) = t := ⟨_, rfl⟩
  rw [hwa]
  have HWA := Lib.hid hwa
  have HM := Lib.hid hmay
  have H0 := Lib.hid h
  have hr2 := h.r2
  have hm2 := h.m2
  obtain ⟨L, hL, hLl⟩ : ∃ L, win.length = L ∧ L ≤ most := ⟨_, rfl, h.m3⟩
  have HL := Lib.hid hL
  have hbw := h.blk.lt
  have hvw : ∀ k, wv.ownBlock = some k → k < w.heap.size := fun k hk => h.row.lt hk
  have HV := Lib.hid hvw
  obtain ⟨ad, ca, hwv⟩ := h.row.form
  rw [hL] at hwv
  subst hwv
  clear hmb hmay h hwa hL hvw
  go_enter Try.func12, Try.ntmps12
  go_wp2_with fail
  refine (HM.out).mono ?_
  rintro e w1 ⟨rfl, q, rfl⟩
  have hU1 : Upd Nowhere w (w.drewN q) := (Upd.refl _ _).drewN q
  have H1 := Lib.hid (H0.out.old hU1)
  go_upto_if 11 with fail
  generalize w.drewN q = w1 at *
  clear c0 c1 c2 c3 c4 c5 z0 z1 z2 z3 z4 z5 H0 HM
  go_cut [] (fun wx => RefIn wx b room most wa num den win (.slice ad L ca) ∧ Upd (fun k => k = b) w wx)
  case first =>
    obtain ⟨c0, c1, c2, c3, c4, c5, z0, z1, z2, z3, z4, z5⟩ := cells6 H1.out.blk
    have e1 : mb = true → IntKind.i64.wrap ((wait : Int) + 1) = ((wait + 1 : Nat) : Int) := fun h => by have := hmw h; rw [IntKind.wrap_i64]; omega
    cases mb with
    | true =>
      have e2 := e1 rfl
      have hlt := hmw rfl
      clear e1 hmw
      go_wp2_with fail
      go_meet
      obtain rfl : wait + 1 = wa := HWA.out
      exact ⟨H1.out.setW (wait + 1) hlt, Upd.setCell (S := fun k => k = b) (a := ⟨b, 4, none⟩) (hU1.any _) (fun _ => rfl) _⟩
    | false =>
      clear e1 hmw
      go_wp2_with fail
      go_meet
      obtain rfl : wait = wa := HWA.out
      exact ⟨H1.out, hU1.any _⟩
  case rest =>
    obtain ⟨h2, hu2⟩ := hcut
    have H2 := Lib.hid h2
    have HU2 := Lib.hid hu2
    have hsz2 := hu2.size
    clear h2 hu2 H1 hU1 hmw
    go_wp2_with fail
    go_loopw [6, 7] (fun nv c wr => ∃ k : Nat, k ≤ L ∧ c = .int .i64 k ∧ wr.ownsRow wc.heap.size TE 1 nv (partOf most win k).length (us (partOf most win k)) ∧ Upd Nowhere wc wr) (fun _ c _ => L - (intOf c).toNat)
    case atStart => exact ⟨0, by omega, rfl, by unfold partOf; simp [us]; exact ownsRow_nil _ _ _ _, Upd.refl _ _⟩
    case round =>
      obtain ⟨k, hk, rfl, hown, hu⟩ := hrel
      have HO := Lib.hid hown
      have HU := Lib.hid hu
      have H3 := Lib.hid (H2.out.old hu)
      have hPl : (partOf most win k).length ≤ k := partOf_len _ _ _
      have hPb : (partOf most win k).length ≤ 999999999 := by omega
      have hsz3 := hu.size
      clear hown hu hPl
      obtain ⟨c0, c1, c2, c3, c4, c5, z0, z1, z2, z3, z4, z5⟩ := cells6 H3.out.blk
      by_cases hlt : k < L
      · have hI : (k : Int) < L := by omega
        obtain ⟨x, hx⟩ : ∃ x, win[k]? = some x := ⟨win[k]'(by rw [HL.out]; exact hlt), by simp⟩
        obtain ⟨g, c, he, hcx⟩ := H3.out.row.at_ hx
        rw [HL.out] at he
        cases he
        have HX := Lib.hid hx
        clear hx
        rcases Nat.eq_zero_or_pos k with rfl | hkp
        · by_cases hfull : L < most
          · have hinc : 0 < 0 ∨ win.length < most := .inr (by rw [HL.out]; exact hfull)
            have d1 : decide (L < most) = true := decide_eq_true hfull
            have d2 : decide ((L : Int) < most) = true := decide_eq_true (by omega)
            go_wp2_with fail
            go_quiet (fail)
            go_wp2_with (at_builtin; refine wpList_push rfl _ _ 25 rfl wc.heap.size TE i0 (.int .u64 0) 1 8 Try.underlying25 hi hz0 hz1 hz2 rfl (by decide) (by decide) _ _ _ rfl ((ownsRow_drewN HO.out nq).alloc _) wr.heap.size 1 [.int .u64 x] rfl rfl (new_cells (wr.drewN nq) #[_] _) (by simp [Value.oneCell']) hPb (by simp; omega) ?_; intro v2 w2 hown2 hu2 hn2)
            go_roundw
            case rel =>
              refine ⟨0 + 1, by omega, by go_num, ?_, ?_⟩
              · rw [partOf_more HX.out hinc, List.length_append]; unfold us at hown2 ⊢; rw [List.map_append]; exact hown2
              · exact ((HU.out.drewN nq).alloc _).trans hu2 (fun i hi2 hi3 => absurd (HO.out.lt i hi3).1 (Nat.not_le.2 hi2))
            case measure => simp [intOf]; omega
          · have hsk := Lib.hid (partOf_skip (most := most) (win := win) (by rw [HL.out]; exact hfull))
            have d1 : decide (L < most) = false := decide_eq_false hfull
            have d2 : decide ((L : Int) < most) = false := decide_eq_false (by omega)
            go_wp2_with fail
            go_quiet (fail)
            go_wp2_with fail
            go_roundw
            case rel => exact ⟨1, by omega, by go_num, by rw [hsk.out]; exact ownsRow_drewN HO.out nq, HU.out.drewN nq⟩
            case measure => simp [intOf]; omega
        · have hinc : 0 < k ∨ win.length < most := .inl hkp
          have d1 : decide ((k : Int) > 0) = true := decide_eq_true (by omega)
          have d2 : decide (0 < k) = true := decide_eq_true hkp
          go_wp2_with fail
          go_quiet (fail)
          go_wp2_with (at_builtin; refine wpList_push rfl _ _ 25 rfl wc.heap.size TE i0 (.int .u64 0) 1 8 Try.underlying25 hi hz0 hz1 hz2 rfl (by decide) (by decide) _ _ _ rfl ((ownsRow_drewN HO.out nq).alloc _) wr.heap.size 1 [.int .u64 x] rfl rfl (new_cells (wr.drewN nq) #[_] _) (by simp [Value.oneCell']) hPb (by simp; omega) ?_; intro v2 w2 hown2 hu2 hn2)
          go_roundw
          case rel =>
            refine ⟨k + 1, by omega, by go_num, ?_, ?_⟩
            · rw [partOf_more HX.out hinc, List.length_append]; unfold us at hown2 ⊢; rw [List.map_append]; exact hown2
            · exact ((HU.out.drewN nq).alloc _).trans hu2 (fun i hi2 hi3 => absurd (HO.out.lt i hi3).1 (Nat.not_le.2 hi2))
          case measure => simp [intOf]; omega
      · obtain rfl : k = L := by omega
        have hI : ¬ (k : Int) < k := by omega
        have e1 : partOf most win k = slid most win := by rw [← HL.out]; exact partOf_all _ _
        have hsl2 : (slid most win).length + 1 ≤ most := by
          have := H3.out.m1
          have := HL.out
          unfold slid; split <;> (try simp) <;> omega
        rw [e1] at HO
        have HSl := Lib.hid hsl2
        have HS2 := Lib.hid (show (slid most win).length ≤ 999999999 by omega)
        clear e1 hsl2
        go_wp2_with (at_builtin; refine wpList_push rfl _ _ 25 rfl wc.heap.size TE i0 (.int .u64 0) 1 8 Try.underlying25 hi hz0 hz1 hz2 rfl (by decide) (by decide) _ _ _ rfl (HO.out.alloc _) wr.heap.size 1 [.int .u64 rank] rfl rfl (new_cells _ #[_] _) (by simp [Value.oneCell']) HS2.out (by simp; omega) ?_; intro v2 w2 hown2 hu2 hn2; have hUw : Upd Nowhere wc w2 := (HU.out.alloc _).trans hu2 (fun i hi2 hi3 => absurd (HO.out.lt i hi3).1 (Nat.not_le.2 hi2)); have H4 := Lib.hid (H2.out.old hUw); have HU4 := Lib.hid hUw; obtain ⟨k0, k1, k2, k3, k4, k5, y0, y1, y2, y3, y4, y5⟩ := cells6 H4.out.blk; have hri := Lib.hid (rising_of (rs := slid most win ++ [(rank : Int)]) (by unfold us at hown2 ⊢; rw [List.map_append]; exact hown2)); obtain ⟨ad2, ca2, rfl⟩ := hri.out.form; have HO2 := Lib.hid hown2; clear hu2 hown2 hUw)
        go_ret
        have hbc := H2.out.blk.lt
        have elen : (slid most win ++ [(rank : Int)]).length = (slid most win).length + 1 := by simp
        have hri2 := hri.out
        rw [elen] at hri2
        have hne : ∀ q, (Value.slice ad2 ((slid most win).length + 1) ca2).ownBlock = some q → wc.heap.size ≤ q := fun q hq => (HO2.out.lt q (by rw [elen]; exact hq)).1
        refine ⟨rfl, _, H4.out.setV hri2 (fun q hq => by have := hne q hq; omega) (by simp; exact HSl.out), fun q hq => Nat.le_trans hsz2 (hne q hq), ?_⟩
        exact Upd.setCell (S := fun k => k = b) (a := ⟨b, 5, none⟩) (HU2.out.trans (HU4.out) (fun _ _ h => h.elim)) (fun _ => rfl) _
end Go.Proofs.Ytgppbclgabdkoaa.Aifo
