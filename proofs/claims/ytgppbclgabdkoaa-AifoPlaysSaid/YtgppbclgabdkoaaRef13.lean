/- The reference's gate: Check, May, Offer. -/
import Derived.Test.YtgppbclgabdkoaaAifoRises
import Derived.Test.YtgppbclgabdkoaaSteps
namespace Go.Proofs.Ytgppbclgabdkoaa.Aifo
open Go.RowKit Go.Proofs BigFrame
open RingU (TR TE)
abbrev TM : TypeId := 35
set_option maxHeartbeats 4000000
set_option maxRecDepth 1000000
theorem check_any (w : World) (room most : Int) (num den : Nat) :
    Calls Try.prog 7 #[.int .i64 room, .int .i64 most, .int .u64 num, .int .u64 den] w fun e w' => e = .returned (.int .i64 (newOf room most num den)) ∧ w = w' := by
  unfold newOf
  by_cases h : room < 1 ∨ 4096 < room ∨ most < 1 ∨ 1024 < most
  · rw [if_pos h]
    by_cases c1 : room < 1
    · have d1 : decide (room < 1) = true := decide_eq_true c1
      go_enter Try.func7, Try.ntmps7
      go_wp2_with fail
      go_ret
      exact ⟨rfl, rfl⟩
    have d1 : decide (room < 1) = false := decide_eq_false c1
    by_cases c2 : 4096 < room
    · have d2 : decide (4096 < room) = true := decide_eq_true c2
      go_enter Try.func7, Try.ntmps7
      go_wp2_with fail
      go_ret
      exact ⟨rfl, rfl⟩
    have d2 : decide (4096 < room) = false := decide_eq_false c2
    by_cases c3 : most < 1
    · have d3 : decide (most < 1) = true := decide_eq_true c3
      go_enter Try.func7, Try.ntmps7
      go_wp2_with fail
      go_ret
      exact ⟨rfl, rfl⟩
    have d3 : decide (most < 1) = false := decide_eq_false c3
    have d4 : decide (1024 < most) = true := decide_eq_true (by omega)
    go_enter Try.func7, Try.ntmps7
    go_wp2_with fail
    go_ret
    exact ⟨rfl, rfl⟩
  · rw [if_neg h]
    have d1 : decide (room < 1) = false := decide_eq_false (by omega)
    have d2 : decide (4096 < room) = false := decide_eq_false (by omega)
    have d3 : decide (most < 1) = false := decide_eq_false (by omega)
    have d4 : decide (1024 < most) = false := decide_eq_false (by omega)
    clear h
    by_cases h : den < 1 ∨ 65536 < den ∨ den ≤ num
    · rw [if_pos h]
      by_cases c1 : den < 1
      · obtain rfl : den = 0 := by omega
        clear h c1
        go_enter Try.func7, Try.ntmps7
        go_wp2_with fail
        go_ret
        exact ⟨rfl, rfl⟩
      have d5 : decide ((den : Int) < 1) = false := decide_eq_false (by omega)
      have d5' : (den == 0) = false := by simp; omega
      by_cases c2 : 65536 < den
      · have d6 : decide (65536 < den) = true := decide_eq_true c2
        have d6' : decide (65536 < (den : Int)) = true := decide_eq_true (by omega)
        go_enter Try.func7, Try.ntmps7
        go_wp2_with fail
        go_ret
        exact ⟨rfl, rfl⟩
      have d6 : decide (65536 < den) = false := decide_eq_false c2
      have d6' : decide (65536 < (den : Int)) = false := decide_eq_false (by omega)
      have d7 : decide (den ≤ num) = true := decide_eq_true (by omega)
      go_enter Try.func7, Try.ntmps7
      go_wp2_with fail
      go_ret
      exact ⟨rfl, rfl⟩
    · rw [if_neg h]
      have d5 : decide ((den : Int) < 1) = false := decide_eq_false (by omega)
      have d5' : (den == 0) = false := by simp; omega
      have d6 : decide (65536 < den) = false := decide_eq_false (by omega)
      have d6' : decide (65536 < (den : Int)) = false := decide_eq_false (by omega)
      have d7 : decide (den ≤ num) = false := decide_eq_false (by omega)
      clear h
      go_enter Try.func7, Try.ntmps7
      go_wp2_with fail
      go_ret
      exact ⟨rfl, rfl⟩
/-- The reference's gate at block b. -/
structure RefIn (w : World) (b room most wait num den : Nat) (win : List Int) (wv : Value) : Prop where
  blk : Blk w b #[.int .i64 room, .int .i64 most, .int .u64 num, .int .u64 den, .int .i64 wait, wv] TM
  row : Rising w wv win
  off : ∀ k, wv.ownBlock = some k → k ≠ b
  r2 : room ≤ 4096
  r3 : wait ≤ room
  m1 : 1 ≤ most
  m2 : most ≤ 1024
  m3 : win.length ≤ most
  d1 : num < den
  d2 : den ≤ 65536
section
variable {w w' : World} {b room most wait num den : Nat} {win : List Int} {wv : Value}
theorem RefIn.kept (h : RefIn w b room most wait num den win wv) {S : Nat → Prop} (hu : Upd S w w') (hb : ¬ S b) (hv : ∀ k, wv.ownBlock = some k → ¬ S k) : RefIn w' b room most wait num den win wv :=
  { h with blk := h.blk.kept hu hb, row := h.row.upd hu hv }
theorem RefIn.old (h : RefIn w b room most wait num den win wv) (hu : Upd Nowhere w w') : RefIn w' b room most wait num den win wv := h.kept hu id (fun _ _ h => h)
theorem RefIn.setW (h : RefIn w b room most wait num den win wv) (c : Nat) (hc : c ≤ room) : RefIn (w.setCell ⟨b, 4, none⟩ (.int .i64 c)) b room most c num den win wv := by
  have hu : Upd (fun k => k = b) w (w.setCell ⟨b, 4, none⟩ (.int .i64 c)) := Upd.setCell (S := fun k => k = b) (Upd.refl _ _) (fun _ => rfl) _
  exact { h with blk := by simpa using h.blk.set 4 (.int .i64 c), r3 := hc, row := h.row.upd hu (fun k hk e => h.off k hk e) }
theorem RefIn.setV (h : RefIn w b room most wait num den win wv) {v : Value} {win' : List Int} (hr : Rising w v win') (ho : ∀ k, v.ownBlock = some k → k ≠ b) (hl : win'.length ≤ most) : RefIn (w.setCell ⟨b, 5, none⟩ v) b room most wait num den win' v := by
  have hu : Upd (fun k => k = b) w (w.setCell ⟨b, 5, none⟩ v) := Upd.setCell (S := fun k => k = b) (Upd.refl _ _) (fun _ => rfl) _
  exact { h with blk := by simpa using h.blk.set 5 v, row := hr.upd hu (fun k hk e => ho k hk e), off := ho, m3 := hl }
theorem Rising.at_ {v : Value} {rs : List Int} {i : Nat} {x : Int} (h : Rising w v rs) (hx : rs[i]? = some x) : ∃ g c, v = .slice (some ⟨g, 0, none⟩) rs.length c ∧ w.cell? ⟨g, i, none⟩ = some (.int .u64 x) := by
  rcases h with ⟨rfl, rfl⟩ | ⟨g, c, rfl, _, _, h3⟩
  · cases hx
  · exact ⟨g, c, rfl, h3 i _ (us_at hx)⟩
theorem rising_of {base n : Nat} {v : Value} {rs : List Int} (h : w.ownsRow base TE 1 v n (us rs)) : Rising w v rs := by
  have hl : rs.length = n := by have := h.1; rw [us_len] at this; omega
  rcases h.2 with ⟨rfl, h0⟩ | ⟨g, cap, cur, rfl, _, hg, hn, _, hs, ht⟩
  · exact .inl ⟨rfl, List.eq_nil_of_length_eq_zero (by omega)⟩
  · subst hl
    refine .inr ⟨g, cap, rfl, hn, Blk.lt hg, fun j u hj => ?_⟩
    have := h.cells (g := g) rfl j u hj
    rw [add_at, Nat.zero_add] at this
    exact this
theorem rmay_any (h : RefIn w b room most wait num den win wv) (rank : Nat) :
    Calls Try.prog 10 #[.pointer (some ⟨b, 0, none⟩), .int .u64 rank] w fun e w' => e = .returned (.bool (mayB room wait num den win rank)) ∧ ∃ q, w' = w.drewN q := by
  obtain ⟨c0, c1, c2, c3, c4, c5, z0, z1, z2, z3, z4, z5⟩ := cells6 h.blk
  obtain ⟨L, hL, hLl⟩ : ∃ L, win.length = L ∧ L ≤ 1024 := ⟨_, rfl, by have := h.m3; have := h.m2; omega⟩
  have hr2 := h.r2
  have hd2 := h.d2
  have hd1 := h.d1
  have hr3 := h.r3
  obtain ⟨ad, ca, hwv⟩ := h.row.form
  rw [hL] at hwv
  subst hwv
  obtain ⟨K, hK, hKl⟩ : ∃ K, win.countP (· < (rank : Int)) = K ∧ K ≤ 1024 := ⟨_, rfl, by have : win.countP (· < (rank : Int)) ≤ win.length := List.countP_le_length; omega⟩
  obtain ⟨D, hD, hDl⟩ : ∃ D, den - num = D ∧ D ≤ 65536 := ⟨_, rfl, by omega⟩
  obtain ⟨R, hR, hRl⟩ : ∃ R, room - wait = R ∧ R ≤ 4096 := ⟨_, rfl, by omega⟩
  obtain ⟨P1, hP1, hP1l⟩ : ∃ P, K * D = P ∧ P ≤ 67108864 := ⟨_, rfl, Nat.mul_le_mul hKl hDl⟩
  obtain ⟨P2, hP2, hP2l⟩ : ∃ P, P1 * room = P ∧ P ≤ 274877906944 := ⟨_, rfl, Nat.mul_le_mul hP1l hr2⟩
  obtain ⟨Q1, hQ1, hQ1l⟩ : ∃ P, R * den = P ∧ P ≤ 268435456 := ⟨_, rfl, Nat.mul_le_mul hRl hd2⟩
  obtain ⟨Q2, hQ2, hQ2l⟩ : ∃ P, Q1 * L = P ∧ P ≤ 274877906944 := ⟨_, rfl, Nat.mul_le_mul hQ1l hLl⟩
  obtain ⟨mb, hmb⟩ : ∃ m, mayB room wait num den win rank = m := ⟨_, rfl⟩
  rw [hmb]
  have hmb1 : wait < room → mb = decide (P2 ≤ Q2) := fun h => by
    rw [← hmb]; unfold mayB
    rw [hK, hD, hR, hL, hP1, hP2, hQ1, hQ2]
    exact decide_eq_decide.2 ⟨fun h => h.2, fun h2 => ⟨h, h2⟩⟩
  have hmb2 : ¬ wait < room → mb = false := fun h => by
    rw [← hmb]; exact decide_eq_false (fun h2 => h h2.1)
  have y1 : IntKind.u64.wrap ((den : Int) - num) = (D : Int) := by rw [IntKind.wrap_u64]; omega
  have y2 : IntKind.u64.wrap ((K : Int) * D) = (P1 : Int) := by rw [← Int.natCast_mul, hP1, IntKind.wrap_u64]; omega
  have y3 : IntKind.u64.wrap ((P1 : Int) * room) = (P2 : Int) := by rw [← Int.natCast_mul, hP2, IntKind.wrap_u64]; omega
  have y4 : wait < room → IntKind.u64.wrap ((room : Int) - wait) = (R : Int) := fun h => by rw [IntKind.wrap_u64]; omega
  have y5 : IntKind.u64.wrap ((R : Int) * den) = (Q1 : Int) := by rw [← Int.natCast_mul, hQ1, IntKind.wrap_u64]; omega
  have y6 : IntKind.u64.wrap ((Q1 : Int) * L) = (Q2 : Int) := by rw [← Int.natCast_mul, hQ2, IntKind.wrap_u64]; omega
  have x2 : IntKind.u64.wrap (room : Int) = (room : Int) := by rw [IntKind.wrap_u64]; omega
  have x3 : IntKind.u64.wrap (wait : Int) = (wait : Int) := by rw [IntKind.wrap_u64]; omega
  have x4 : IntKind.u64.wrap (L : Int) = (L : Int) := by rw [IntKind.wrap_u64]; omega
  have H := Lib.hid h
  have HL := Lib.hid hL
  have HK := Lib.hid hK
  have HM1 := Lib.hid hmb1
  have HM2 := Lib.hid hmb2
  have HY4 := Lib.hid y4
  clear h hL hK hD hR hP1 hP2 hQ1 hQ2 hmb hmb1 hmb2 y4
  go_enter Try.func10, Try.ntmps10
  go_wp2_with fail
  go_loopw [5, 6] (fun s c wr => ∃ k : Nat, k ≤ L ∧ c = .int .i64 k ∧ s = .int .u64 ((win.take k).countP (· < (rank : Int)) : Nat) ∧ wr = w) (fun _ c _ => L - (intOf c).toNat)
  case atStart => exact ⟨0, by omega, rfl, by simp, rfl⟩
  case round =>
    obtain ⟨k, hk, rfl, rfl, rfl⟩ := hrel
    by_cases hlt : k < L
    · have hI : (k : Int) < L := by omega
      obtain ⟨x, hx⟩ : ∃ x, win[k]? = some x := ⟨win[k]'(by rw [HL.out]; exact hlt), by simp⟩
      obtain ⟨g, c, he, hcx⟩ := H.out.row.at_ hx
      cases he
      obtain ⟨C, hC⟩ : ∃ C, (win.take k).countP (· < (rank : Int)) = C := ⟨_, rfl⟩
      have hCk : C ≤ k := by rw [← hC]; exact Nat.le_trans List.countP_le_length (by rw [List.length_take]; omega)
      have ec : IntKind.u64.wrap ((C : Int) + 1) = ((C + 1 : Nat) : Int) := by rw [IntKind.wrap_u64]; omega
      rw [hC]
      have HC := Lib.hid hC
      have HX := Lib.hid hx
      clear hC hx
      by_cases hxr : x < (rank : Int)
      · have d0 : decide (x < (rank : Int)) = true := decide_eq_true hxr
        go_wp2_with fail
        go_roundw
        case rel =>
          refine ⟨k + 1, by omega, by go_num, ?_, by first | rfl | trivial⟩
          rw [List.take_add_one, HX.out, List.countP_append, HC.out]
          simp [hxr]
        case measure => simp [intOf]; omega
      · have d0 : decide (x < (rank : Int)) = false := decide_eq_false hxr
        go_wp2_with fail
        go_roundw
        case rel =>
          refine ⟨k + 1, by omega, by go_num, ?_, by first | rfl | trivial⟩
          rw [List.take_add_one, HX.out, List.countP_append, HC.out]
          simp [hxr]
        case measure => simp [intOf]; omega
    · obtain rfl : k = L := by omega
      have hI : ¬ (k : Int) < k := by omega
      have e1 : (win.take k).countP (· < (rank : Int)) = K := by rw [List.take_of_length_le (by rw [HL.out]; exact Nat.le_refl _), HK.out]
      rw [e1]
      clear e1
      by_cases hw : wait < room
      · have d1 : decide ((wait : Int) < room) = true := decide_eq_true (by omega)
        have d2 : decide (wait < room) = true := decide_eq_true hw
        have y4 := HY4.out hw
        have hm := HM1.out hw
        subst hm
        go_wp2_with fail
        go_quiet (fail)
        go_wp2_with fail
        go_ret
        refine ⟨?_, _, rfl⟩
        first | rfl | (exact ret_bool (by simp))
      · have d1 : decide ((wait : Int) < room) = false := decide_eq_false (by omega)
        have d2 : decide (wait < room) = false := decide_eq_false hw
        have hm := HM2.out hw
        subst hm
        go_wp2_with fail
        go_quiet (fail)
        go_wp2_with fail
        go_ret
        exact ⟨rfl, _, rfl⟩
end
end Go.Proofs.Ytgppbclgabdkoaa.Aifo
