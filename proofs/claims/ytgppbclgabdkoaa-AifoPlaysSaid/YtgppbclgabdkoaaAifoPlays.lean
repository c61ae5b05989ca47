/- AifoPlays. -/
import Derived.Test.YtgppbclgabdkoaaRef13b
import Derived.Test.YtgppbclgabdkoaaSameNum
import Derived.Test.YtgppbclgabdkoaaMix2
import Derived.Deep.CutBlock
import Derived.Deep.RegionHeld3
import Derived.Deep.RegionWith
namespace Go.Proofs.Ytgppbclgabdkoaa.Aifo
open Go.RowKit Go.Proofs BigFrame
open RingU (TR TE)
set_option maxHeartbeats 4000000
set_option maxRecDepth 1000000
theorem plays_fail (room most : Int) (num den : Nat) (ad : Option Addr) (n ca : Nat) (ad2 : Option Addr) (n2 ca2 : Nat) (w : World) (h : newOf room most num den ≠ 0) :
    Calls Try.prog 3 #[.agg #[.int .i64 room, .int .i64 most, .int .u64 num, .int .u64 den], .slice ad n ca, .slice ad2 n2 ca2] w fun e w' => e = .returned (.bool true) ∧ Upd Nowhere w w' := by
  have HL := fun u => Lib.hid (lives u)
  obtain ⟨f, hf⟩ : ∃ f, newOf room most num den = f := ⟨_, rfl⟩
  rw [hf] at h
  have HN := fun u => Lib.hid (new_fail u room most num den f hf h)
  have HC := fun u => Lib.hid (check_any u room most num den)
  rw [hf] at HC
  have t0 : (f != 0) = true := by simp [h]
  have t1 : (f == 0) = false := by simp [h]
  have t2 : (f != f) = false := by simp
  clear hf h
  go_enter Try.func3, Try.ntmps3
  go_wp2_with fail
  refine ((HN _).out).mono ?_
  rintro e w1 ⟨rfl, rfl⟩
  go_wp2_with fail
  refine ((HC _).out).mono ?_
  rintro e w1 ⟨rfl, rfl⟩
  go_wp2_with fail
  refine ((HL _).out).mono ?_
  rintro e w2 ⟨rfl, u2⟩
  go_wp2_with fail
  go_ret
  exact ⟨rfl, ((Upd.refl _ _).alloc _).trans u2 (fun _ _ h => h)⟩
theorem plays_big (room most num den : Nat) (x1 : 1 ≤ room) (x2 : room ≤ 4096) (x3 : 1 ≤ most) (x4 : most ≤ 1024) (x5 : num < den) (x6 : den ≤ 65536) (ad : Option Addr) (n ca : Nat) (ad2 : Option Addr) (n2 ca2 : Nat) (w : World) (h : 200 < n ∨ 200 < n2) :
    Calls Try.prog 3 #[.agg #[.int .i64 room, .int .i64 most, .int .u64 num, .int .u64 den], .slice ad n ca, .slice ad2 n2 ca2] w fun e w' => e = .returned (.bool true) ∧ Upd Nowhere w w' := by
  have HL := fun u => Lib.hid (lives u)
  have HN := fun u => Lib.hid (new_ok u room most num den x1 x2 x3 x4 x5 x6)
  have HC := fun u => Lib.hid (check_any u room most num den)
  have e0 : newOf room most num den = 0 := by unfold newOf; rw [if_neg (by omega), if_neg (by omega)]
  rw [e0] at HC
  clear e0
  by_cases hn : 200 < n
  · have t0 : decide ((n : Int) > 200) = true := decide_eq_true (by omega)
    have t1 : decide (200 < n) = true := decide_eq_true hn
    clear h hn
    go_enter Try.func3, Try.ntmps3
    go_wp2_with fail
    have hB1 : Blk (w.alloc (.cells #[.int .i64 room, .int .i64 most, .int .u64 num, .int .u64 den] TC)) w.heap.size #[.int .i64 room, .int .i64 most, .int .u64 num, .int .u64 den] TC := Blk.new _ _ _
    refine (HN _).out.mono ?_
    rintro e w1 ⟨b, rfl, _, u1⟩
    obtain ⟨q0, q1, q2, q3, _, _, _, _⟩ := cells4 (hB1.kept u1 id)
    go_wp2_with fail
    refine ((HC _).out).mono ?_
    rintro e w1 ⟨rfl, rfl⟩
    go_wp2_with fail
    refine ((HL _).out).mono ?_
    rintro e w2 ⟨rfl, u2⟩
    go_wp2_with fail
    go_ret
    exact ⟨rfl, (((Upd.refl _ _).alloc _).trans u1 (fun _ _ h => h)).trans u2 (fun _ _ h => h)⟩
  · have t0 : decide ((n : Int) > 200) = false := decide_eq_false (by omega)
    have t1 : decide (200 < n) = false := decide_eq_false hn
    have t2 : decide ((n2 : Int) > 200) = true := decide_eq_true (by omega)
    have t3 : decide (200 < n2) = true := decide_eq_true (by omega)
    clear h hn
    go_enter Try.func3, Try.ntmps3
    go_wp2_with fail
    have hB1 : Blk (w.alloc (.cells #[.int .i64 room, .int .i64 most, .int .u64 num, .int .u64 den] TC)) w.heap.size #[.int .i64 room, .int .i64 most, .int .u64 num, .int .u64 den] TC := Blk.new _ _ _
    refine (HN _).out.mono ?_
    rintro e w1 ⟨b, rfl, _, u1⟩
    obtain ⟨q0, q1, q2, q3, _, _, _, _⟩ := cells4 (hB1.kept u1 id)
    go_wp2_with fail
    refine ((HC _).out).mono ?_
    rintro e w1 ⟨rfl, rfl⟩
    go_wp2_with fail
    refine ((HL _).out).mono ?_
    rintro e w2 ⟨rfl, u2⟩
    go_wp2_with fail
    go_ret
    exact ⟨rfl, (((Upd.refl _ _).alloc _).trans u1 (fun _ _ h => h)).trans u2 (fun _ _ h => h)⟩
/-- The code's gate, the reference's, side by side. -/
structure Both (w wB wr : World) (gb mb room most wait num den : Nat) (win : List Int) (wv : Value) : Prop where
  g : HasG TG TR TE (fun q => q = mb ∨ wv.ownBlock = some q) wB wr gb room most wait num den win
  m : RefIn wr mb room most wait num den win wv
  new : ∀ q, wv.ownBlock = some q → wB.heap.size ≤ q
  mnew : wB.heap.size ≤ mb
  low : w.heap.size ≤ wB.heap.size
  upd : Upd Nowhere w wr
section
variable {w wB wr w1 w2 : World} {gb mb room most wait wait' num den : Nat} {win win' : List Int} {wv wv' : Value}
theorem Both.old (h : Both w wB wr gb mb room most wait num den win wv) (hu : Upd Nowhere wr w1) : Both w wB w1 gb mb room most wait num den win wv :=
  ⟨h.g.old hu, h.m.old hu, h.new, h.mnew, h.low, h.upd.trans hu (fun _ _ h => h)⟩
theorem Both.lts (h : Both w wB wr gb mb room most wait num den win wv) : ∀ q, (q = mb ∨ wv.ownBlock = some q) → q < wr.heap.size := fun q hq => by
  rcases hq with rfl | hq
  · exact h.m.blk.lt
  · exact h.m.row.lt hq
/-- The code's gate turned. -/
theorem Both.mid (h : Both w wB wr gb mb room most wait num den win wv) (hu : Upd (fun k => wB.heap.size ≤ k ∧ ¬ (k = mb ∨ wv.ownBlock = some k)) wr w1) : RefIn w1 mb room most wait num den win wv ∧ Upd Nowhere w w1 :=
  ⟨h.m.kept hu (fun hk => hk.2 (.inl rfl)) (fun _ hk hk2 => hk2.2 (.inr hk)), h.upd.trans hu (fun _ hk h2 => absurd (Nat.le_trans h.low h2.1) (Nat.not_le.2 hk))⟩
/-- Then the reference's turned. -/
theorem Both.fin (h : Both w wB wr gb mb room most wait num den win wv) (hu : Upd (fun k => wB.heap.size ≤ k ∧ ¬ (k = mb ∨ wv.ownBlock = some k)) wr w1) (hg : HasG TG TR TE (fun q => q = mb ∨ wv.ownBlock = some q) wB w1 gb room most wait' num den win')
    (hm : RefIn w2 mb room most wait' num den win' wv') (hn : NewRow w1 wv') (hu2 : Upd (fun k => k = mb) w1 w2) : Both w wB w2 gb mb room most wait' num den win' wv' := by
  have hsz : wB.heap.size ≤ w1.heap.size := by obtain ⟨_, _, _, _, _, _, h3⟩ := hg; exact h3
  refine ⟨(hg.re (fun k hk => ?_)).kept hu2 (fun _ hk _ => .inl (.inl hk)), hm, fun q hq => Nat.le_trans hsz (hn q hq), h.mnew, h.low, (h.mid hu).2.trans hu2 (fun _ hk e => ?_)⟩
  · exact hk.elim (fun h => .inl (.inl h)) (fun h => .inr (hn k h))
  · have := h.mnew; have := h.low; omega
/-- How many wait, written by the law. -/
theorem Both.setW (h : Both w wB wr gb mb room most wait num den win wv) (hu : Upd (fun k => wB.heap.size ≤ k ∧ ¬ (k = mb ∨ wv.ownBlock = some k)) wr w1) (hg : HasG TG TR TE (fun q => q = mb ∨ wv.ownBlock = some q) wB w1 gb room most wait' num den win)
    (hw : wait' ≤ room) : Both w wB (w1.setCell ⟨mb, 4, none⟩ (.int .i64 wait')) gb mb room most wait' num den win wv := by
  have h1 := (h.mid hu).1
  have hu2 : Upd (fun k => k = mb) w1 (w1.setCell ⟨mb, 4, none⟩ (.int .i64 wait')) := Upd.setCell (S := fun k => k = mb) (Upd.refl _ _) (fun _ => rfl) _
  refine ⟨hg.kept hu2 (fun _ hk _ => .inl (.inl hk)), h1.setW wait' hw, h.new, h.mnew, h.low, (h.mid hu).2.trans hu2 (fun _ hk e => ?_)⟩
  have := h.mnew; have := h.low; omega
end
theorem rising_row {w : World} {v : Value} {rs : List Int} (h : Rising w v rs) : RowAt w v (us rs) := by
  rcases h with ⟨rfl, rfl⟩ | ⟨g, c, rfl, _, _, h3⟩
  · exact RowAt.nil w
  · refine ⟨some ⟨g, 0, none⟩, c, by rw [us_len], (fun h => by cases h), fun b hb j u hj => ?_⟩
    obtain rfl := Option.some.inj hb
    exact ⟨rfl, by rw [Nat.zero_add]; exact h3 j u hj⟩
section
variable {w wB wd w1 : World} {gb mb room most wait num den : Nat} {win : List Int} {wv v v' : Value} {a a' : Addr}
theorem t_glen (h : Both w wB wd gb mb room most wait num den win wv) (hS : Upd Nowhere wd w1 ∧ w1.cell? a = some v ∧ w1.cell? a' = some v') :
    Calls Try.prog 13 #[.pointer (some ⟨gb, 0, none⟩)] w1 fun e w2 => e = .returned (.int .i64 wait) ∧ (Upd Nowhere wd w2 ∧ w2.cell? a = some v ∧ w2.cell? a' = some v') := by
  refine (hasG_len (h.old hS.1).g).mono ?_
  rintro e w2 ⟨rfl, rfl⟩
  exact ⟨rfl, hS⟩
theorem t_window (h : Both w wB wd gb mb room most wait num den win wv) (hS : Upd Nowhere wd w1 ∧ w1.cell? a = some v ∧ w1.cell? a' = some v') :
    Calls Try.prog 16 #[.pointer (some ⟨gb, 0, none⟩)] w1 fun e w2 => ∃ r, e = .returned r ∧ RowAt w2 r (us win) ∧ Upd Nowhere w1 w2 ∧ (Upd Nowhere wd w2 ∧ w2.cell? a = some v ∧ w2.cell? a' = some v') := by
  refine (hasG_window (h.old hS.1).g).mono ?_
  rintro e w2 ⟨⟨r, rfl, ho⟩, hu⟩
  exact ⟨r, rfl, ownsRow_rowAt ho, hu, hS.1.trans hu (fun _ _ h => h), cell_old hu hS.2.1, cell_old hu hS.2.2⟩
theorem t_same (h : Both w wB wd gb mb room most wait num den win wv) {va : Value} (hr : RowAt w1 va (us win)) (hS : Upd Nowhere wd w1 ∧ w1.cell? a = some v ∧ w1.cell? a' = some v') :
    Calls Try.prog 15 #[va, wv] w1 fun e w2 => e = .returned (.bool true) ∧ (Upd Nowhere wd w2 ∧ w2.cell? a = some v ∧ w2.cell? a' = some v') := by
  have hm := (h.old hS.1).m
  have hl : win.length ≤ 1000000 := by have := hm.m3; have := hm.m2; omega
  refine (Ref12n.same_any w1 va wv win win hr (rising_row hm.row) hl hl).mono ?_
  rintro e w2 ⟨rfl, q, rfl⟩
  exact ⟨by simp, hS.1.drewN q, hS.2⟩
end
theorem plays_walk (room most num den : Nat) (x1 : 1 ≤ room) (x2 : room ≤ 4096) (x3 : 1 ≤ most) (x4 : most ≤ 1024) (x5 : num < den) (x6 : den ≤ 65536) (ad : Option Addr) (ca : Nat) (l : List Nat) (hn : l.length ≤ 200) (ad2 : Option Addr) (ca2 : Nat) (tk : List Nat) (hn2 : tk.length ≤ 200) (htk : ∀ x ∈ tk, x ≤ 255) (w : World)
    (h0 : ad = none → l = []) (hc : ∀ g, ad = some g → ∀ j x, l[j]? = some x → g.spot = none ∧ w.cell? ⟨g.block, g.off + j, none⟩ = some (.int .u64 (x : Nat)))
    (h02 : ad2 = none → tk = []) (hc2 : ∀ g, ad2 = some g → ∀ j x, tk[j]? = some x → g.spot = none ∧ w.cell? ⟨g.block, g.off + j, none⟩ = some (.int .u8 (x : Nat))) :
    Calls Try.prog 3 #[.agg #[.int .i64 room, .int .i64 most, .int .u64 num, .int .u64 den], .slice ad l.length ca, .slice ad2 tk.length ca2] w fun e w' => e = .returned (.bool true) ∧ Upd Nowhere w w' := by
  have HL := fun u => Lib.hid (lives u)
  have HN := fun u => Lib.hid (new_ok u room most num den x1 x2 x3 x4 x5 x6)
  have HC := fun u => Lib.hid (check_any u room most num den)
  have e0 : newOf room most num den = 0 := by unfold newOf; rw [if_neg (by omega), if_neg (by omega)]
  rw [e0] at HC
  clear e0
  obtain ⟨n, hn'⟩ : ∃ n, l.length = n := ⟨_, rfl⟩
  obtain ⟨n2, hn2'⟩ : ∃ n, tk.length = n := ⟨_, rfl⟩
  rw [hn'] at hn ⊢
  rw [hn2'] at hn2 ⊢
  have t0 : decide ((n : Int) > 200) = false := decide_eq_false (by omega)
  have t1 : decide (200 < n) = false := decide_eq_false (by omega)
  have t2 : decide ((n2 : Int) > 200) = false := decide_eq_false (by omega)
  have t3 : decide (200 < n2) = false := decide_eq_false (by omega)
  have HN1 := Lib.hid hn'
  have HN2 := Lib.hid hn2'
  have H0 := Lib.hid h0
  have HR := Lib.hid hc
  have H02 := Lib.hid h02
  have HR2 := Lib.hid hc2
  have HT := Lib.hid htk
  clear hn' hn2' h0 hc h02 hc2 htk
  go_enter Try.func3, Try.ntmps3
  go_wp2_with fail
  have hU1 : Upd Nowhere w (w.alloc (.cells #[.int .i64 room, .int .i64 most, .int .u64 num, .int .u64 den] TC)) := (Upd.refl _ _).alloc _
  have hB1 : Blk (w.alloc (.cells #[.int .i64 room, .int .i64 most, .int .u64 num, .int .u64 den] TC)) w.heap.size #[.int .i64 room, .int .i64 most, .int .u64 num, .int .u64 den] TC := Blk.new _ _ _
  refine (HN _).out.mono ?_
  rintro e w1 ⟨gb, rfl, hg1, u1⟩
  generalize w.alloc _ = wB at *
  have hB2 := hB1.kept u1 id
  have hU2 := hU1.trans u1 (fun _ _ h => h)
  obtain ⟨q0, q1, q2, q3, _, _, _, _⟩ := cells4 hB2
  have hBoth : Both w wB (w1.alloc (.cells #[.int .i64 room, .int .i64 most, .int .u64 num, .int .u64 den, .int .i64 0, .slice none 0 0] TM)) gb w1.heap.size room most 0 num den [] (.slice none 0 0) :=
    ⟨(hg1.re (fun k hk => hk.elim (fun h => .inr (Nat.le_of_eq h.symm)) (fun h => by cases h))).old ((Upd.refl _ _).alloc _), ⟨Blk.new _ _ _, .inl ⟨rfl, rfl⟩, (fun k hk => by cases hk), x2, Nat.zero_le _, x3, x4, Nat.zero_le _, x5, x6⟩, (fun q hq => by cases hq), u1.size, hU1.size, hU2.alloc _⟩
  have HB := Lib.hid hBoth
  clear hg1 u1 hU1 hB1 hBoth
  go_wp2_with fail
  refine ((HC _).out).mono ?_
  rintro e w1 ⟨rfl, rfl⟩
  go_wp2_with fail
  clear q0 q1 q2 q3 hB2 hU2
  generalize w1.heap.size = mb at *
  go_loopw [70] (fun c wr => ∃ (k wait : Nat) (win : List Int) (wv : Value), k ≤ n ∧ c = .int .i64 k ∧ Both w wB wr gb mb room most wait num den win wv) (fun c _ => n - (intOf c).toNat)
  case atStart => exact ⟨0, 0, [], _, by omega, rfl, HB.out⟩
  case round =>
    obtain ⟨k, wait, win, wv, hk, rfl, hBo⟩ := hrel
    have HB1 := Lib.hid hBo
    obtain ⟨w2, rfl⟩ : ∃ x, x = wr := ⟨_, rfl⟩
    clear hBo HB
    by_cases hlt : k < n
    · have hI : (k : Int) < n := by omega
      obtain ⟨x, hx⟩ : ∃ x, l[k]? = some x := ⟨l[k]'(by rw [HN1.out]; exact hlt), by simp⟩
      obtain ⟨ga, oa, rfl, hcx⟩ : ∃ g o, ad = some ⟨g, o, none⟩ ∧ w.cell? ⟨g, o + k, none⟩ = some (.int .u64 (x : Nat)) := by
        cases ad with
        | none => rw [H0.out rfl] at hx; cases hx
        | some g =>
          obtain ⟨hs, hcc⟩ := HR.out g rfl k x hx
          obtain ⟨g, o, sp⟩ := g
          simp only at hs
          subst hs
          exact ⟨g, o, rfl, hcc⟩
      have hcx2 := cell_old HB1.out.upd hcx
      obtain ⟨mb1, hmb⟩ : ∃ mb, mayB room wait num den win x = mb := ⟨_, rfl⟩
      obtain ⟨wa, hwa⟩ : ∃ t, (if mb1 then wait + 1 else wait) = t := ⟨_, rfl⟩
      have HGM := fun u (hu : Upd Nowhere w2 u) => Lib.hid (hasG_may (HB1.out.old hu).g x mb1 hmb)
      have HRM := fun u (hu : Upd Nowhere w2 u) => Lib.hid (rmay_any (HB1.out.old hu).m x)
      rw [hmb] at HRM
      have HGO := fun u (hu : Upd Nowhere w2 u) => Lib.hid (hasG_offer (HB1.out.old hu).g (HB1.out.old hu).lts x mb1 wa _ hmb hwa rfl)
      have HRO := fun u (hr : RefIn u mb room most wait num den win wv) => Lib.hid (roffer_any hr x)
      rw [hmb, hwa] at HRO
      clear hcx hx hmb hwa
      have tb : (mb1 != mb1) = false := by simp
      go_upto_region 11 with fail
      refine wp_region_mix ([0, 1, 2, 3, 4, 5, 6, 7, 8, 9, 11, 12], [10, 13]) [([14, 15, 16, 17, 18, 19, 20, 21, 22, 23, 24], [])] (by kernel_rfl) (by kernel_rfl) (by kernel_rfl) ?_
      simp only [wpStages, picked_flat, List.flatMap_cons, List.flatMap_nil, List.getElem?_toArray, List.getElem?_cons_succ, List.getElem?_cons_zero, Option.toList_some, List.cons_append, List.nil_append]
      repeat (go_big_quiet_step ((first | (go_at_call 9; exact Calls.quiet_of (HGM _ ((Upd.refl _ _).drewN _)).out) | (go_at_call 10; exact Calls.quiet_of (HRM _ ((Upd.refl _ _).drewN _)).out))))
      refine wpQuiet_nil ?_
      rintro _ ⟨nq, rfl⟩
      go_wp2_with fail
      have hUq : Upd Nowhere w2 (w2.drewN nq) := (Upd.refl _ _).drewN nq
      refine (HGO _ hUq).out.mono ?_
      rintro e w3 ⟨rfl, hg3, u3⟩
      have hB3 := HB1.out.old hUq
      have hM3 := (hB3.mid u3).1
      go_wp2_with fail
      refine (HRO _ hM3).out.mono ?_
      rintro e w4 ⟨rfl, wv4, hm4, hn4, u4⟩
      have HB4 := Lib.hid (hB3.fin u3 hg3 hm4 hn4 u4)
      clear hUq hg3 u3 hB3 hM3 hm4 hn4 u4 HGO HRO HGM HRM HB1 hcx2
      obtain ⟨k0, k1, k2, k3, k4, k5, y0, y1, y2, y3, y4, y5⟩ := cells6 HB4.out.m.blk
      have HLn := fun u (hu : Upd Nowhere w4 u) => Lib.hid (hasG_len (HB4.out.old hu).g)
      have tw : ((wa : Int) != wa) = false := by simp
      go_wp2_with fail
      refine Stage.out ?_
      repeat (go_big_quiet_step ((go_at_call 13; exact quiet_same (HLn _ ((Upd.refl _ _).drewN _)).out)))
      refine wpQuiet_nil ?_
      rintro _ ⟨nq2, rfl⟩
      go_wp2_with fail
      refine Stage.out ?_
      have HB5 := Lib.hid (HB4.out.old ((Upd.refl _ _).drewN nq2))
      go_upto_block 2 with fail
      generalize w4.drewN nq2 = w5 at *
      clear k0 k1 k2 k3 k4 k5 y0 y1 y2 y3 y4 y5 HB4 HLn tw tb
      go_cut [13] (fun c wx => ∃ wb, Both w wB wx gb mb room most wb num den (slid most win ++ [(x : Int)]) wv4)
      case first =>
        by_cases hkn : k < n2
        · obtain ⟨y, hy⟩ : ∃ y, tk[k]? = some y := ⟨tk[k]'(by rw [HN2.out]; exact hkn), by simp⟩
          obtain ⟨g2, o2, rfl, hcy⟩ : ∃ g o, ad2 = some ⟨g, o, none⟩ ∧ w.cell? ⟨g, o + k, none⟩ = some (.int .u8 (y : Nat)) := by
            cases ad2 with
            | none => rw [H02.out rfl] at hy; cases hy
            | some g =>
              obtain ⟨hs, hcc⟩ := HR2.out g rfl k y hy
              obtain ⟨g, o, sp⟩ := g
              simp only at hs
              subst hs
              exact ⟨g, o, rfl, hcc⟩
          have hy255 := HT.out y (List.mem_of_getElem? hy)
          obtain ⟨T, hT⟩ : ∃ T, y % 3 = T := ⟨_, rfl⟩
          have hT3 : T ≤ 2 := by omega
          have eT : (y : Int) % 3 = (T : Int) := by omega
          have d1 : decide ((k : Int) < n2) = true := decide_eq_true (by omega)
          have d2 : decide (k < n2) = true := decide_eq_true hkn
          have i1 : (k : Int) < n2 := by omega
          have HCY := Lib.hid hcy
          clear hy hcy hT hkn
          go_wp2_with fail
          go_loopw [13] (fun c wr => ∃ (j wb : Nat), j ≤ T ∧ c = .int .i64 j ∧ Both w wB wr gb mb room most wb num den (slid most win ++ [(x : Int)]) wv4) (fun c _ => T - (intOf c).toNat)
          case atStart => exact ⟨0, wa, by omega, rfl, HB5.out⟩
          case round =>
            obtain ⟨j, wb, hj, rfl, hbj⟩ := hrel
            have HBj := Lib.hid hbj
            obtain ⟨w6, rfl⟩ : ∃ x, x = wr := ⟨_, rfl⟩
            have hcy := cell_old HBj.out.upd HCY.out
            clear hbj HB5
            by_cases hjT : j < T
            · have i2 : (j : Int) < T := by omega
              go_upto_region 16 with fail
              rcases Nat.eq_zero_or_pos wb with rfl | hwp
              · have HTk := fun u (hu : Upd Nowhere w6 u) => Lib.hid (hasG_take0 (HBj.out.old hu).g)
                obtain ⟨k0, k1, k2, k3, k4, k5, y0, y1, y2, y3, y4, y5⟩ := cells6 HBj.out.m.blk
                go_quiet ((go_at_call 14; exact quiet_same (HTk _ ((Upd.refl _ _).drewN _)).out))
                have HBk := Lib.hid (HBj.out.old ((Upd.refl _ _).drewN nq))
                go_upto_region 18 with fail
                generalize w6.drewN nq = w7 at *
                clear k0 k1 k2 k3 k4 k5 y0 y1 y2 y3 y4 y5 HTk HBj
                obtain ⟨k0, k1, k2, k3, k4, k5, y0, y1, y2, y3, y4, y5⟩ := cells6 HBk.out.m.blk
                go_wp2_with fail
                go_roundw
                case rel => exact ⟨j + 1, 0, by omega, by go_num, HBk.out.setW (wait' := 0) (Upd.refl _ _) HBk.out.g (Nat.zero_le _)⟩
                case measure => simp [intOf]; omega
              · obtain ⟨wt, rfl⟩ : ∃ x, wb = x + 1 := ⟨wb - 1, by omega⟩
                have HTk := fun u (hu : Upd Nowhere w6 u) => Lib.hid (hasG_take (HBj.out.old hu).g (HBj.out.old hu).lts)
                obtain ⟨k0, k1, k2, k3, k4, k5, y0, y1, y2, y3, y4, y5⟩ := cells6 HBj.out.m.blk
                have hle := HBj.out.m.r3
                go_cut [123] (fun t wx => t = .bool false ∧ HasG TG TR TE (fun q => q = mb ∨ wv4.ownBlock = some q) wB wx gb room most wt num den (slid most win ++ [(x : Int)]) ∧ Upd (fun k => wB.heap.size ≤ k ∧ ¬ (k = mb ∨ wv4.ownBlock = some k)) w6 wx)
                case first =>
                  go_region_with (go_at_call 14; refine (HTk _ (by repeat (first | with_reducible exact Upd.refl _ _ | with_reducible refine Upd.drew ?_))).out.mono ?_; rintro e w7 ⟨rfl, h7, u7⟩; have hm7 := ((HBj.out.old (by repeat (first | with_reducible exact Upd.refl _ _ | with_reducible refine Upd.drew ?_))).mid u7).1; obtain ⟨_, _, _, _, p4, _, _, _, _, _, _, _⟩ := cells6 hm7.blk)
                  all_goals
                    go_wp2_with fail
                    go_meet
                    exact ⟨rfl, h7, Upd.trans (S := fun k => wB.heap.size ≤ k ∧ ¬ (k = mb ∨ wv4.ownBlock = some k)) (by repeat (first | with_reducible exact Upd.refl _ _ | with_reducible refine Upd.drew ?_)) u7 (fun _ _ h => h)⟩
                case rest =>
                  obtain ⟨rfl, h7, u7⟩ := hcut
                  have H7 := Lib.hid h7
                  have U7 := Lib.hid u7
                  clear h7 u7 k0 k1 k2 k3 k4 k5 y0 y1 y2 y3 y4 y5 HTk
                  obtain ⟨k0, k1, k2, k3, k4, k5, y0, y1, y2, y3, y4, y5⟩ := cells6 ((HBj.out.mid U7.out).1).blk
                  have e1 : IntKind.i64.wrap (((wt + 1 : Nat) : Int) - 1) = (wt : Int) := by rw [IntKind.wrap_i64]; omega
                  have e2 : IntKind.i64.wrap ((wt : Int) + 1 - 1) = (wt : Int) := by rw [IntKind.wrap_i64]; omega
                  have emx : max (wt : Int) 0 = (wt : Int) := by omega
                  go_wp2_with fail
                  go_roundw
                  case rel => exact ⟨j + 1, wt, by omega, by go_num, HBj.out.setW U7.out H7.out (by omega)⟩
                  case measure => simp [intOf]; omega
            · have i2 : ¬ (j : Int) < T := by omega
              obtain rfl : j = T := by omega
              go_wp2_with fail
              go_meet
              exact ⟨wb, HBj.out⟩
        · have d1 : decide ((k : Int) < n2) = false := decide_eq_false (by omega)
          have d2 : decide (k < n2) = false := decide_eq_false hkn
          go_wp2_with fail
          go_loopw [13] (fun c wr => c = .int .i64 0 ∧ wr = w5) (fun _ _ => 0)
          case atStart => exact ⟨rfl, rfl⟩
          case round =>
            obtain ⟨rfl, rfl⟩ := hrel
            go_wp2_with fail
            go_meet
            exact ⟨wa, HB5.out⟩
      case rest =>
        obtain ⟨wb, hb6⟩ := hcut
        have HB6 := Lib.hid hb6
        clear hb6 HB5
        obtain ⟨k0, k1, k2, k3, k4, k5, y0, y1, y2, y3, y4, y5⟩ := cells6 HB6.out.m.blk
        have tw : ((wb : Int) != wb) = false := by simp
        have hS0 := (Upd.refl Nowhere wc).drew
        go_upto_region 19 with fail
        go_region_held3 (fun w' => Upd Nowhere wc w' ∧ w'.cell? ⟨mb, 4, none⟩ = some (.int .i64 wb) ∧ w'.cell? ⟨mb, 5, none⟩ = some wv4) (first | exact ⟨hS0, k4, k5⟩ | assumption) (first
          | (go_at_call 13; refine (t_glen HB6.out (by assumption)).mono ?_; rintro e w11 ⟨rfl, hS11⟩)
          | (go_at_call 16; refine (t_window HB6.out (by assumption)).mono ?_; rintro e w13 ⟨v13, rfl, hr13, hu13, hS13⟩)
          | (go_at_call 15; refine (t_same HB6.out hr13 (by assumption)).mono ?_; rintro e w16 ⟨rfl, hS16⟩))
        all_goals
          rename_i hSF
          go_wp2_with fail
          go_roundw
          case rel => exact ⟨k + 1, wb, _, wv4, by omega, by go_num, HB6.out.old hSF.1⟩
          case measure => simp [intOf]; omega
    · have hI : ¬ (k : Int) < n := by omega
      go_wp2_with fail
      refine (HL _).out.mono ?_
      rintro e w3 ⟨rfl, u3⟩
      go_wp2_with fail
      go_ret
      exact ⟨rfl, HB1.out.upd.trans u3 (fun _ _ h => h)⟩
/-- Rows of numbers that are not below nought, as Nat. -/
theorem nat_row {K : IntKind} {ad : Option Addr} {l : List Int} {w : World} (hb : ∀ x ∈ l, 0 ≤ x) (hc : ∀ b, ad = some b → ∀ (j : Nat) (u : Value), (l.map (Value.int K))[j]? = some u → b.spot = none ∧ w.cell? ⟨b.block, b.off + j, none⟩ = some u) :
    ∀ g, ad = some g → ∀ (j x : Nat), (l.map Int.toNat)[j]? = some x → g.spot = none ∧ w.cell? ⟨g.block, g.off + j, none⟩ = some (.int K (x : Nat)) := fun g hg j x hx => by
  rw [List.getElem?_map] at hx
  cases hy : l[j]? with
  | none => rw [hy] at hx; cases hx
  | some y =>
    rw [hy] at hx
    obtain rfl := Option.some.inj hx
    have h2 := hb y (List.mem_of_getElem? hy)
    have h3 := hc g hg j (.int K y) (by rw [List.getElem?_map, hy]; rfl)
    rw [Int.toNat_of_nonneg h2]
    exact h3
theorem plays_law (room most : Int) (num den : Nat) (v : Value) (l : List Int) (v2 : Value) (tk : List Int) (w : World) (hr : RowAt w v (l.map (.int .u64))) (hw : ∀ n ∈ l, (Lit.int .u64 n).wf = true) (hr2 : RowAt w v2 (tk.map (.int .u8))) (hw2 : ∀ n ∈ tk, (Lit.int .u8 n).wf = true) :
    Calls Try.prog 3 #[.agg #[.int .i64 room, .int .i64 most, .int .u64 num, .int .u64 den], v, v2] w fun e w' => e = .returned (.bool true) ∧ Upd Nowhere w w' := by
  obtain ⟨ad, ca, rfl, h0, hc⟩ := hr
  obtain ⟨ad2, ca2, rfl, h02, hc2⟩ := hr2
  have hlen : (l.map (Value.int .u64)).length = l.length := by simp
  have hlen2 : (tk.map (Value.int .u8)).length = tk.length := by simp
  rw [hlen, hlen2]
  by_cases h : newOf room most num den ≠ 0
  · exact plays_fail room most num den ad l.length ca ad2 tk.length ca2 w h
  · obtain ⟨r, m, rfl, rfl, x1, x2, x3, x4, x5, x6⟩ := newOf_zero (show newOf room most num den = 0 by omega)
    by_cases hb : 200 < l.length ∨ 200 < tk.length
    · exact plays_big r m num den x1 x2 x3 x4 x5 x6 ad l.length ca ad2 tk.length ca2 w hb
    · have e : (l.map Int.toNat).length = l.length := by simp
      have e2 : (tk.map Int.toNat).length = tk.length := by simp
      rw [← e, ← e2]
      refine plays_walk r m num den x1 x2 x3 x4 x5 x6 ad ca (l.map Int.toNat) (by omega) ad2 ca2 (tk.map Int.toNat) (by omega) (fun x hx => ?_) w (fun h => ?_) (nat_row (fun x hx => by have := bd64 (hw x hx); omega) hc) (fun h => ?_) (nat_row (fun x hx => by have := bd8 (hw2 x hx); omega) hc2)
      · obtain ⟨y, hy, rfl⟩ := List.mem_map.1 hx; have := bd8 (hw2 y hy); omega
      · have := (h0 h).1; simpa using this
      · have := (h02 h).1; simpa using this
end Go.Proofs.Ytgppbclgabdkoaa.Aifo
