/- AifoLives, AifoRises, Ref13, Ref13b, one behind the other. -/
import Derived.Test.YtdddfmdcjjbegaaGreatMeGate
import Derived.Test.YtdddfmdcjjbegaaGreatMeOpen
import Derived.Test.YtdddfmdcjjbegaaGreatMeA
import Derived.Deep.DeepCutAuto
namespace Go.Proofs.YtdddfmdcjjbegaaGreat.Aifo
open Go.RowKit Go.Proofs BigFrame
open RingU (TR TE)
set_option maxHeartbeats 4000000
set_option maxRecDepth 1000000
/-- What New tells. -/
def newOf (room most : Int) (num den : Nat) : Int := if room < 1 ∨ 4096 < room ∨ most < 1 ∨ 1024 < most then 25 else if den < 1 ∨ 65536 < den ∨ den ≤ num then 6 else 0
end Go.Proofs.YtdddfmdcjjbegaaGreat.Aifo
namespace Go.Proofs.YtdddfmdcjjbegaaGreat.Aifo
open Go.RowKit Go.Proofs BigFrame
open RingU (TR TE)
abbrev TM : TypeId := 137
set_option maxHeartbeats 4000000
set_option maxRecDepth 1000000
theorem check_any (w : World) (room most : Int) (num den : Nat) :
 Calls Tryz.prog 82 #[.int .i64 room, .int .i64 most, .int .u64 num, .int .u64 den] w fun e w' => e = .returned (.int .i64 (newOf room most num den)) ∧ w = w' := by
 unfold newOf
 by_cases h : room < 1 ∨ 4096 < room ∨ most < 1 ∨ 1024 < most
 · rw [if_pos h]
   by_cases c1 : room < 1
   · have d1 : decide (room < 1) = true := decide_eq_true c1
     go_enter Tryz.func82, Tryz.ntmps82
     go_wp2_with fail
     go_ret
     exact ⟨rfl, rfl⟩
   have d1 : decide (room < 1) = false := decide_eq_false c1
   by_cases c2 : 4096 < room
   · have d2 : decide (4096 < room) = true := decide_eq_true c2
     go_enter Tryz.func82, Tryz.ntmps82
     go_wp2_with fail
     go_ret
     exact ⟨rfl, rfl⟩
   have d2 : decide (4096 < room) = false := decide_eq_false c2
   by_cases c3 : most < 1
   · have d3 : decide (most < 1) = true := decide_eq_true c3
     go_enter Tryz.func82, Tryz.ntmps82
     go_wp2_with fail
     go_ret
     exact ⟨rfl, rfl⟩
   have d3 : decide (most < 1) = false := decide_eq_false c3
   have d4 : decide (1024 < most) = true := decide_eq_true (by omega)
   go_enter Tryz.func82, Tryz.ntmps82
   go_wp2_with fail
   go_ret
   exact ⟨rfl, rfl⟩
 · rw [if_neg h]
   have d1 : decide (room < 1) = false := decide_eq_false (by omega)
   have d2 : decide (4096 < room) = false := decide_eq_false (by omega)
   have d3 : decide (most < 1) = false := decide_eq_false (by omega)
   have d4 : decide (1024 < most) = false := decide_eq_false (by omega)
   clear h
   by_cases h : den < 1 ∨ 65536 < den ∨ den ≤ num
   · rw [if_pos h]
     by_cases c1 : den < 1
     · obtain rfl : den = 0 := by omega
       clear h c1
       go_enter Tryz.func82, Tryz.ntmps82
       go_wp2_with fail
       go_ret
       exact ⟨rfl, rfl⟩
     have d5 : decide ((den : Int) < 1) = false := decide_eq_false (by omega)
     have d5' : (den == 0) = false := by simp; omega
     by_cases c2 : 65536 < den
     · have d6 : decide (65536 < den) = true := decide_eq_true c2
       have d6' : decide (65536 < (den : Int)) = true := decide_eq_true (by omega)
       go_enter Tryz.func82, Tryz.ntmps82
       go_wp2_with fail
       go_ret
       exact ⟨rfl, rfl⟩
     have d6 : decide (65536 < den) = false := decide_eq_false c2
     have d6' : decide (65536 < (den : Int)) = false := decide_eq_false (by omega)
     have d7 : decide (den ≤ num) = true := decide_eq_true (by omega)
     go_enter Tryz.func82, Tryz.ntmps82
     go_wp2_with fail
     go_ret
     exact ⟨rfl, rfl⟩
   · rw [if_neg h]
     have d5 : decide ((den : Int) < 1) = false := decide_eq_false (by omega)
     have d5' : (den == 0) = false := by simp; omega
     have d6 : decide (65536 < den) = false := decide_eq_false (by omega)
     have d6' : decide (65536 < (den : Int)) = false := decide_eq_false (by omega)
     have d7 : decide (den ≤ num) = false := decide_eq_false (by omega)
     clear h
     go_enter Tryz.func82, Tryz.ntmps82
     go_wp2_with fail
     go_ret
     exact ⟨rfl, rfl⟩
/-- The reference's gate at block b. -/
structure RefIn (w : World) (b room most wait num den : Nat) (win : List Int) (wv : Value) : Prop where
 blk : Blk w b #[.int .i64 room, .int .i64 most, .int .u64 num, .int .u64 den, .int .i64 wait, wv] TM
 row : Rising w wv win
 off : ∀ k, wv.ownBlock = some k → k ≠ b
 r2 : room ≤ 4096
 r3 : wait ≤ room
 m1 : 1 ≤ most
 m2 : most ≤ 1024
 m3 : win.length ≤ most
 d1 : num < den
 d2 : den ≤ 65536
section
variable {w w' : World} {b room most wait num den : Nat} {win : List Int} {wv : Value}
theorem RefIn.kept (h : RefIn w b room most wait num den win wv) {S : Nat → Prop} (hu : Upd S w w') (hb : ¬ S b) (hv : ∀ k, wv.ownBlock = some k → ¬ S k) : RefIn w' b room most wait num den win wv :=
 { h with blk := h.blk.kept hu hb, row := h.row.upd hu hv }
theorem RefIn.old (h : RefIn w b room most wait num den win wv) (hu : Upd Nowhere w w') : RefIn w' b room most wait num den win wv := h.kept hu id (fun _ _ h => h)
theorem RefIn.setW (h : RefIn w b room most wait num den win wv) (c : Nat) (hc : c ≤ room) : RefIn (w.setCell ⟨b, 4, none⟩ (.int .i64 c)) b room most c num den win wv := by
 have hu : Upd (fun k => k = b) w (w.setCell ⟨b, 4, none⟩ (.int .i64 c)) := Upd.setCell (S := fun k => k = b) (Upd.refl _ _) (fun _ => rfl) _
 exact { h with blk := by simpa using h.blk.set 4 (.int .i64 c), r3 := hc, row := h.row.upd hu (fun k hk e => h.off k hk e) }
theorem RefIn.setV (h : RefIn w b room most wait num den win wv) {v : Value} {win' : List Int} (hr : Rising w v win') (ho : ∀ k, v.ownBlock = some k → k ≠ b) (hl : win'.length ≤ most) : RefIn (w.setCell ⟨b, 5, none⟩ v) b room most wait num den win' v := by
 have hu : Upd (fun k => k = b) w (w.setCell ⟨b, 5, none⟩ v) := Upd.setCell (S := fun k => k = b) (Upd.refl _ _) (fun _ => rfl) _
 exact { h with blk := by simpa using h.blk.set 5 v, row := hr.upd hu (fun k hk e => ho k hk e), off := ho, m3 := hl }
theorem Rising.at_ {v : Value} {rs : List Int} {i : Nat} {x : Int} (h : Rising w v rs) (hx : rs[i]? = some x) : ∃ g c, v = .slice (some ⟨g, 0, none⟩) rs.length c ∧ w.cell? ⟨g, i, none⟩ = some (.int .u64 x) := by
 rcases h with ⟨rfl, rfl⟩ | ⟨g, c, rfl, _, _, h3⟩
 · cases hx
 · exact ⟨g, c, rfl, h3 i _ (us_at hx)⟩
theorem rising_of {base n : Nat} {v : Value} {rs : List Int} (h : w.ownsRow base TE 1 v n (us rs)) : Rising w v rs := by
 have hl : rs.length = n := by have := h.1; rw [us_len] at this; omega
 rcases h.2 with ⟨rfl, h0⟩ | ⟨g, cap, cur, rfl, _, hg, hn, _, hs, ht⟩
 · exact .inl ⟨rfl, List.eq_nil_of_length_eq_zero (by omega)⟩
 · subst hl
   refine .inr ⟨g, cap, rfl, hn, Blk.lt hg, fun j u hj => ?_⟩
   have := h.cells (g := g) rfl j u hj
   rw [add_at, Nat.zero_add] at this
   exact this
theorem rmay_any (h : RefIn w b room most wait num den win wv) (rank : Nat) :
 Calls Tryz.prog 88 #[.pointer (some ⟨b, 0, none⟩), .int .u64 rank] w fun e w' => e = .returned (.bool (mayB room wait num den win rank)) ∧ ∃ q, w' = w.drewN q := by
 obtain ⟨c0, c1, c2, c3, c4, c5, z0, z1, z2, z3, z4, z5⟩ := cells6 h.blk
 obtain ⟨L, hL, hLl⟩ : ∃ L, win.length = L ∧ L ≤ 1024 := ⟨_, rfl, by have := h.m3; have := h.m2; omega⟩
 have hr2 := h.r2
 have hd2 := h.d2
 have hd1 := h.d1
 have hr3 := h.r3
 obtain ⟨ad, ca, hwv⟩ := h.row.form
 rw [hL] at hwv
 subst hwv
 obtain ⟨K, hK, hKl⟩ : ∃ K, win.countP (· < (rank : Int)) = K ∧ K ≤ 1024 := ⟨_, rfl, by have : win.countP (· < (rank : Int)) ≤ win.length := List.countP_le_length; omega⟩
 obtain ⟨D, hD, hDl⟩ : ∃ D, den - num = D ∧ D ≤ 65536 := ⟨_, rfl, by omega⟩
 obtain ⟨R, hR, hRl⟩ : ∃ R, room - wait = R ∧ R ≤ 4096 := ⟨_, rfl, by omega⟩
 obtain ⟨P1, hP1, hP1l⟩ : ∃ P, K * D = P ∧ P ≤ 67108864 := ⟨_, rfl, Nat.mul_le_mul hKl hDl⟩
 obtain ⟨P2, hP2, hP2l⟩ : ∃ P, P1 * room = P ∧ P ≤ 274877906944 := ⟨_, rfl, Nat.mul_le_mul hP1l hr2⟩
 obtain ⟨Q1, hQ1, hQ1l⟩ : ∃ P, R * den = P ∧ P ≤ 268435456 := ⟨_, rfl, Nat.mul_le_mul hRl hd2⟩
 obtain ⟨Q2, hQ2, hQ2l⟩ : ∃ P, Q1 * L = P ∧ P ≤ 274877906944 := ⟨_, rfl, Nat.mul_le_mul hQ1l hLl⟩
 obtain ⟨mb, hmb⟩ : ∃ m, mayB room wait num den win rank = m := ⟨_, rfl⟩
 rw [hmb]
 have hmb1 : wait < room → mb = decide (P2 ≤ Q2) := fun h => by
  rw [← hmb]; unfold mayB
  rw [hK, hD, hR, hL, hP1, hP2, hQ1, hQ2]
  exact decide_eq_decide.2 ⟨fun h => h.2, fun h2 => ⟨h, h2⟩⟩
 have hmb2 : ¬ wait < room → mb = false := fun h => by
  rw [← hmb]; exact decide_eq_false (fun h2 => h h2.1)
 have y1 : IntKind.u64.wrap ((den : Int) - num) = (D : Int) := by rw [IntKind.wrap_u64]; omega
 have y2 : IntKind.u64.wrap ((K : Int) * D) = (P1 : Int) := by rw [← Int.natCast_mul, hP1, IntKind.wrap_u64]; omega
 have y3 : IntKind.u64.wrap ((P1 : Int) * room) = (P2 : Int) := by rw [← Int.natCast_mul, hP2, IntKind.wrap_u64]; omega
 have y4 : wait < room → IntKind.u64.wrap ((room : Int) - wait) = (R : Int) := fun h => by rw [IntKind.wrap_u64]; omega
 have y5 : IntKind.u64.wrap ((R : Int) * den) = (Q1 : Int) := by rw [← Int.natCast_mul, hQ1, IntKind.wrap_u64]; omega
 have y6 : IntKind.u64.wrap ((Q1 : Int) * L) = (Q2 : Int) := by rw [← Int.natCast_mul, hQ2, IntKind.wrap_u64]; omega
 have x2 : IntKind.u64.wrap (room : Int) = (room : Int) := by rw [IntKind.wrap_u64]; omega
 have x3 : IntKind.u64.wrap (wait : Int) = (wait : Int) := by rw [IntKind.wrap_u64]; omega
 have x4 : IntKind.u64.wrap (L : Int) = (L : Int) := by rw [IntKind.wrap_u64]; omega
 have H := Lib.hid h
 have HL := Lib.hid hL
 have HK := Lib.hid hK
 have HM1 := Lib.hid hmb1
 have HM2 := Lib.hid hmb2
 have HY4 := Lib.hid y4
 clear h hL hK hD hR hP1 hP2 hQ1 hQ2 hmb hmb1 hmb2 y4
 go_enter Tryz.func88, Tryz.ntmps88
 go_wp2_with fail
 go_loopw [5, 6] (fun s c wr => ∃ k : Nat, k ≤ L ∧ c = .int .i64 k ∧ s = .int .u64 ((win.take k).countP (· < (rank : Int)) : Nat) ∧ wr = w) (fun _ c _ => L - (intOf c).toNat)
 case atStart => exact ⟨0, by omega, rfl, by simp, rfl⟩
 case round =>
  obtain ⟨k, hk, rfl, rfl, rfl⟩ := hrel
  by_cases hlt : k < L
  · have hI : (k : Int) < L := by omega
    obtain ⟨x, hx⟩ : ∃ x, win[k]? = some x := ⟨win[k]'(by rw [HL.out]; exact hlt), by simp⟩
    obtain ⟨g, c, he, hcx⟩ := H.out.row.at_ hx
    cases he
    obtain ⟨C, hC⟩ : ∃ C, (win.take k).countP (· < (rank : Int)) = C := ⟨_, rfl⟩
    have hCk : C ≤ k := by rw [← hC]; exact Nat.le_trans List.countP_le_length (by rw [List.length_take]; omega)
    have ec : IntKind.u64.wrap ((C : Int) + 1) = ((C + 1 : Nat) : Int) := by rw [IntKind.wrap_u64]; omega
    rw [hC]
    have HC := Lib.hid hC
    have HX := Lib.hid hx
    clear hC hx
    by_cases hxr : x < (rank : Int)
    · have d0 : decide (x < (rank : Int)) = true := decide_eq_true hxr
      go_wp2_with fail
      go_roundw
      case rel =>
       refine ⟨k + 1, by omega, by go_num, ?_, by first | rfl | trivial⟩
       rw [List.take_add_one, HX.out, List.countP_append, HC.out]
       simp [hxr]
      case measure => simp [intOf]; omega
    · have d0 : decide (x < (rank : Int)) = false := decide_eq_false hxr
      go_wp2_with fail
      go_roundw
      case rel =>
       refine ⟨k + 1, by omega, by go_num, ?_, by first | rfl | trivial⟩
       rw [List.take_add_one, HX.out, List.countP_append, HC.out]
       simp [hxr]
      case measure => simp [intOf]; omega
  · obtain rfl : k = L := by omega
    have hI : ¬ (k : Int) < k := by omega
    have e1 : (win.take k).countP (· < (rank : Int)) = K := by rw [List.take_of_length_le (by rw [HL.out]; exact Nat.le_refl _), HK.out]
    rw [e1]
    clear e1
    by_cases hw : wait < room
    · have d1 : decide ((wait : Int) < room) = true := decide_eq_true (by omega)
      have d2 : decide (wait < room) = true := decide_eq_true hw
      have y4 := HY4.out hw
      have hm := HM1.out hw
      subst hm
      go_wp2_with fail
      go_quiet (fail)
      go_wp2_with fail
      go_ret
      refine ⟨?_, _, rfl⟩
      first | rfl | (exact ret_bool (by simp))
    · have d1 : decide ((wait : Int) < room) = false := decide_eq_false (by omega)
      have d2 : decide (wait < room) = false := decide_eq_false hw
      have hm := HM2.out hw
      subst hm
      go_wp2_with fail
      go_quiet (fail)
      go_wp2_with fail
      go_ret
      exact ⟨rfl, _, rfl⟩
end
end Go.Proofs.YtdddfmdcjjbegaaGreat.Aifo
namespace Go.Proofs.YtdddfmdcjjbegaaGreat.Aifo
open Go.RowKit Go.Proofs BigFrame
open RingU (TR TE)
set_option maxHeartbeats 4000000
set_option maxRecDepth 1000000
/-- What stays of the first k ranks of a window. -/
def partOf (most : Nat) (win : List Int) (k : Nat) : List Int := if win.length < most then win.take k else (win.take k).tail
theorem partOf_all (most : Nat) (win : List Int) : partOf most win win.length = slid most win := by
 unfold partOf slid; rw [List.take_of_length_le (Nat.le_refl _)]
theorem partOf_len (most : Nat) (win : List Int) (k : Nat) : (partOf most win k).length ≤ k := by
 unfold partOf; split <;> simp <;> omega
theorem partOf_more {most : Nat} {win : List Int} {k : Nat} {x : Int} (hx : win[k]? = some x) (h : 0 < k ∨ win.length < most) : partOf most win (k + 1) = partOf most win k ++ [x] := by
 have e : win.take (k + 1) = win.take k ++ [x] := by rw [List.take_add_one, hx]; rfl
 unfold partOf
 rw [e]
 split
 · rfl
 · rename_i hn
   have hk : 0 < k := by omega
   have hkl : k < win.length := by
    rcases Nat.lt_or_ge k win.length with h | h
    · exact h
    · rw [List.getElem?_eq_none h] at hx; cases hx
   cases h2 : win.take k with
   | nil => have := congrArg List.length h2; rw [List.length_take, List.length_nil] at this; omega
   | cons a r => rfl
theorem partOf_skip {most : Nat} {win : List Int} (h : ¬ win.length < most) : partOf most win 1 = partOf most win 0 := by
 unfold partOf
 rw [if_neg h, if_neg h]
 cases win <;> rfl
theorem roffer_any {w : World} {b room most wait num den : Nat} {win : List Int} {wv : Value} (h : RefIn w b room most wait num den win wv) (rank : Nat) :
 Calls Tryz.prog 54 #[.pointer (some ⟨b, 0, none⟩), .int .u64 rank] w fun e w' => e = .returned (.bool (mayB room wait num den win rank)) ∧
  ∃ wv', RefIn w' b room most (if mayB room wait num den win rank then wait + 1 else wait) num den (slid most win ++ [(rank : Int)]) wv' ∧ NewRow w wv' ∧ Upd (fun k => k = b) w w' := by
 obtain ⟨i0, hi, hz0, hz1, hz2⟩ := info_parts infoU
 obtain ⟨c0, c1, c2, c3, c4, c5, z0, z1, z2, z3, z4, z5⟩ := cells6 h.blk
 have hmay := rmay_any h rank
 obtain ⟨mb, hmb, hmw⟩ : ∃ mb, mayB room wait num den win rank = mb ∧ (mb = true → wait < room) := ⟨_, rfl, fun h => (of_decide_eq_true h).1⟩
 rw [hmb] at hmay ⊢
 obtain ⟨wa, hwa⟩ : ∃ t, (if mb then wait + 1 else wait) = t := ⟨_, rfl⟩
 rw [hwa]
 have HWA := Lib.hid hwa
 have HM := Lib.hid hmay
 have H0 := Lib.hid h
 have hr2 := h.r2
 have hm2 := h.m2
 obtain ⟨L, hL, hLl⟩ : ∃ L, win.length = L ∧ L ≤ most := ⟨_, rfl, h.m3⟩
 have HL := Lib.hid hL
 have hbw := h.blk.lt
 have hvw : ∀ k, wv.ownBlock = some k → k < w.heap.size := fun k hk => h.row.lt hk
 have HV := Lib.hid hvw
 obtain ⟨ad, ca, hwv⟩ := h.row.form
 rw [hL] at hwv
 subst hwv
 clear hmb hmay h hwa hL hvw
 go_enter Tryz.func54, Tryz.ntmps54
 go_wp2_with fail
 refine (HM.out).mono ?_
 rintro e w1 ⟨rfl, q, rfl⟩
 have hU1 : Upd Nowhere w (w.drewN q) := (Upd.refl _ _).drewN q
 have H1 := Lib.hid (H0.out.old hU1)
 go_upto_if 11 with fail
 generalize w.drewN q = w1 at *
 clear c0 c1 c2 c3 c4 c5 z0 z1 z2 z3 z4 z5 H0 HM
 go_cut [] (fun wx => RefIn wx b room most wa num den win (.slice ad L ca) ∧ Upd (fun k => k = b) w wx)
 case first =>
  obtain ⟨c0, c1, c2, c3, c4, c5, z0, z1, z2, z3, z4, z5⟩ := cells6 H1.out.blk
  have e1 : mb = true → IntKind.i64.wrap ((wait : Int) + 1) = ((wait + 1 : Nat) : Int) := fun h => by have := hmw h; rw [IntKind.wrap_i64]; omega
  cases mb with
  | true =>
    have e2 := e1 rfl
    have hlt := hmw rfl
    clear e1 hmw
    go_wp2_with fail
    go_meet
    obtain rfl : wait + 1 = wa := HWA.out
    exact ⟨H1.out.setW (wait + 1) hlt, Upd.setCell (S := fun k => k = b) (a := ⟨b, 4, none⟩) (hU1.any _) (fun _ => rfl) _⟩
  | false =>
    clear e1 hmw
    go_wp2_with fail
    go_meet
    obtain rfl : wait = wa := HWA.out
    exact ⟨H1.out, hU1.any _⟩
 case rest =>
  obtain ⟨h2, hu2⟩ := hcut
  have H2 := Lib.hid h2
  have HU2 := Lib.hid hu2
  have hsz2 := hu2.size
  clear h2 hu2 H1 hU1 hmw
  go_wp2_with fail
  go_loopw [6, 7] (fun nv c wr => ∃ k : Nat, k ≤ L ∧ c = .int .i64 k ∧ wr.ownsRow wc.heap.size TE 1 nv (partOf most win k).length (us (partOf most win k)) ∧ Upd Nowhere wc wr) (fun _ c _ => L - (intOf c).toNat)
  case atStart => exact ⟨0, by omega, rfl, by unfold partOf; simp [us]; exact ownsRow_nil _ _ _ _, Upd.refl _ _⟩
  case round =>
   obtain ⟨k, hk, rfl, hown, hu⟩ := hrel
   have HO := Lib.hid hown
   have HU := Lib.hid hu
   have H3 := Lib.hid (H2.out.old hu)
   have hPl : (partOf most win k).length ≤ k := partOf_len _ _ _
   have hPb : (partOf most win k).length ≤ 999999999 := by omega
   have hsz3 := hu.size
   clear hown hu hPl
   obtain ⟨c0, c1, c2, c3, c4, c5, z0, z1, z2, z3, z4, z5⟩ := cells6 H3.out.blk
   by_cases hlt : k < L
   · have hI : (k : Int) < L := by omega
     obtain ⟨x, hx⟩ : ∃ x, win[k]? = some x := ⟨win[k]'(by rw [HL.out]; exact hlt), by simp⟩
     obtain ⟨g, c, he, hcx⟩ := H3.out.row.at_ hx
     rw [HL.out] at he
     cases he
     have HX := Lib.hid hx
     clear hx
     rcases Nat.eq_zero_or_pos k with rfl | hkp
     · by_cases hfull : L < most
       · have hinc : 0 < 0 ∨ win.length < most := .inr (by rw [HL.out]; exact hfull)
         have d1 : decide (L < most) = true := decide_eq_true hfull
         have d2 : decide ((L : Int) < most) = true := decide_eq_true (by omega)
         go_wp2_with fail
         go_quiet (fail)
         go_wp2_with (at_builtin; refine wpList_push rfl _ _ 131 rfl wc.heap.size TE i0 (.int .u64 0) 1 8 Tryz.underlying131 hi hz0 hz1 hz2 rfl (by decide) (by decide) _ _ _ rfl ((ownsRow_drewN HO.out nq).alloc _) wr.heap.size 1 [.int .u64 x] rfl rfl (new_cells (wr.drewN nq) #[_] _) (by simp [Value.oneCell']) hPb (by simp; omega) ?_; intro v2 w2 hown2 hu2 hn2)
         go_roundw
         case rel =>
          refine ⟨0 + 1, by omega, by go_num, ?_, ?_⟩
          · rw [partOf_more HX.out hinc, List.length_append]; unfold us at hown2 ⊢; rw [List.map_append]; exact hown2
          · exact ((HU.out.drewN nq).alloc _).trans hu2 (fun i hi2 hi3 => absurd (HO.out.lt i hi3).1 (Nat.not_le.2 hi2))
         case measure => simp [intOf]; omega
       · have hsk := Lib.hid (partOf_skip (most := most) (win := win) (by rw [HL.out]; exact hfull))
         have d1 : decide (L < most) = false := decide_eq_false hfull
         have d2 : decide ((L : Int) < most) = false := decide_eq_false (by omega)
         go_wp2_with fail
         go_quiet (fail)
         go_wp2_with fail
         go_roundw
         case rel => exact ⟨1, by omega, by go_num, by rw [hsk.out]; exact ownsRow_drewN HO.out nq, HU.out.drewN nq⟩
         case measure => simp [intOf]; omega
     · have hinc : 0 < k ∨ win.length < most := .inl hkp
       have d1 : decide ((k : Int) > 0) = true := decide_eq_true (by omega)
       have d2 : decide (0 < k) = true := decide_eq_true hkp
       go_wp2_with fail
       go_quiet (fail)
       go_wp2_with (at_builtin; refine wpList_push rfl _ _ 131 rfl wc.heap.size TE i0 (.int .u64 0) 1 8 Tryz.underlying131 hi hz0 hz1 hz2 rfl (by decide) (by decide) _ _ _ rfl ((ownsRow_drewN HO.out nq).alloc _) wr.heap.size 1 [.int .u64 x] rfl rfl (new_cells (wr.drewN nq) #[_] _) (by simp [Value.oneCell']) hPb (by simp; omega) ?_; intro v2 w2 hown2 hu2 hn2)
       go_roundw
       case rel =>
        refine ⟨k + 1, by omega, by go_num, ?_, ?_⟩
        · rw [partOf_more HX.out hinc, List.length_append]; unfold us at hown2 ⊢; rw [List.map_append]; exact hown2
        · exact ((HU.out.drewN nq).alloc _).trans hu2 (fun i hi2 hi3 => absurd (HO.out.lt i hi3).1 (Nat.not_le.2 hi2))
       case measure => simp [intOf]; omega
   · obtain rfl : k = L := by omega
     have hI : ¬ (k : Int) < k := by omega
     have e1 : partOf most win k = slid most win := by rw [← HL.out]; exact partOf_all _ _
     have hsl2 : (slid most win).length + 1 ≤ most := by
      have := H3.out.m1
      have := HL.out
      unfold slid; split <;> (try simp) <;> omega
     rw [e1] at HO
     have HSl := Lib.hid hsl2
     have HS2 := Lib.hid (show (slid most win).length ≤ 999999999 by omega)
     clear e1 hsl2
     go_wp2_with (at_builtin; refine wpList_push rfl _ _ 131 rfl wc.heap.size TE i0 (.int .u64 0) 1 8 Tryz.underlying131 hi hz0 hz1 hz2 rfl (by decide) (by decide) _ _ _ rfl (HO.out.alloc _) wr.heap.size 1 [.int .u64 rank] rfl rfl (new_cells _ #[_] _) (by simp [Value.oneCell']) HS2.out (by simp; omega) ?_; intro v2 w2 hown2 hu2 hn2; have hUw : Upd Nowhere wc w2 := (HU.out.alloc _).trans hu2 (fun i hi2 hi3 => absurd (HO.out.lt i hi3).1 (Nat.not_le.2 hi2)); have H4 := Lib.hid (H2.out.old hUw); have HU4 := Lib.hid hUw; obtain ⟨k0, k1, k2, k3, k4, k5, y0, y1, y2, y3, y4, y5⟩ := cells6 H4.out.blk; have hri := Lib.hid (rising_of (rs := slid most win ++ [(rank : Int)]) (by unfold us at hown2 ⊢; rw [List.map_append]; exact hown2)); obtain ⟨ad2, ca2, rfl⟩ := hri.out.form; have HO2 := Lib.hid hown2; clear hu2 hown2 hUw)
     go_ret
     have hbc := H2.out.blk.lt
     have elen : (slid most win ++ [(rank : Int)]).length = (slid most win).length + 1 := by simp
     have hri2 := hri.out
     rw [elen] at hri2
     have hne : ∀ q, (Value.slice ad2 ((slid most win).length + 1) ca2).ownBlock = some q → wc.heap.size ≤ q := fun q hq => (HO2.out.lt q (by rw [elen]; exact hq)).1
     refine ⟨rfl, _, H4.out.setV hri2 (fun q hq => by have := hne q hq; omega) (by simp; exact HSl.out), fun q hq => Nat.le_trans hsz2 (hne q hq), ?_⟩
     exact Upd.setCell (S := fun k => k = b) (a := ⟨b, 5, none⟩) (HU2.out.trans (HU4.out) (fun _ _ h => h.elim)) (fun _ => rfl) _
end Go.Proofs.YtdddfmdcjjbegaaGreat.Aifo

