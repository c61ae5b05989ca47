/- aifo's gate, as a law meets it; the example; a gate that nobody made. -/
import Derived.Test.YtgppbclgabdkoaaGate2
import Derived.Test.YtgppbclgabdkoaaClose
namespace Go.Proofs.Ytgppbclgabdkoaa.Aifo
open Go.RowKit Go.Proofs BigFrame
open RingU (TR TE)
set_option maxHeartbeats 4000000
set_option maxRecDepth 1000000
theorem past {A : Nat → Prop} {w w1 w2 : World} (h : Upd Nowhere w w1) (h2 : Upd (fun k => w.heap.size ≤ k ∧ ¬ A k) w1 w2) : Upd Nowhere w w2 := h.trans h2 (fun _ hk h => absurd h.1 (Nat.not_le.2 hk))
section
variable {A : Nat → Prop} {w0 w : World} {b room most wait num den : Nat} {win : List Int}
theorem hasG_may (h : HasG TG TR TE A w0 w b room most wait num den win) (rank : Nat) (mb : Bool) (hm : mayB room wait num den win rank = mb) :
    Calls Try.prog 9 #[.pointer (some ⟨b, 0, none⟩), .int .u64 rank] w fun e w' => e = .returned (.bool mb) ∧ ∃ q, w' = w.drewN q := by
  subst hm
  obtain ⟨rb, rg, rv, rs, h1, _⟩ := h
  exact may_any h1 rank
theorem hasG_offer (h : HasG TG TR TE A w0 w b room most wait num den win) (hA : ∀ k, A k → k < w.heap.size) (rank : Nat) (mb : Bool) (wait' : Nat) (win' : List Int) (hm : mayB room wait num den win rank = mb) (hw : (if mb then wait + 1 else wait) = wait') (hwin : slid most win ++ [(rank : Int)] = win') :
    Calls Try.prog 11 #[.pointer (some ⟨b, 0, none⟩), .int .u64 rank] w fun e w' => e = .returned (.bool mb) ∧ HasG TG TR TE A w0 w' b room most wait' num den win' ∧ Upd (fun k => w0.heap.size ≤ k ∧ ¬ A k) w w' := by
  subst hm hw hwin
  obtain ⟨rb, rg, rv, rs, h1, h2, h3⟩ := h
  refine (offer_any h1 rank).mono ?_
  rintro e w' ⟨rfl, ht⟩
  exact ⟨rfl, HasG.turned h2 h3 hA ht⟩
theorem hasG_take (h : HasG TG TR TE A w0 w b room most (wait + 1) num den win) (hA : ∀ k, A k → k < w.heap.size) :
    Calls Try.prog 14 #[.pointer (some ⟨b, 0, none⟩)] w fun e w' => e = .returned (.bool true) ∧ HasG TG TR TE A w0 w' b room most wait num den win ∧ Upd (fun k => w0.heap.size ≤ k ∧ ¬ A k) w w' := by
  obtain ⟨rb, rg, rv, rs, h1, h2, h3⟩ := h
  refine (gtake_some h1).mono ?_
  rintro e w' ⟨rfl, ht⟩
  exact ⟨rfl, HasG.turned h2 h3 hA ht⟩
theorem hasG_take0 (h : HasG TG TR TE A w0 w b room most 0 num den win) :
    Calls Try.prog 14 #[.pointer (some ⟨b, 0, none⟩)] w fun e w' => e = .returned (.bool false) ∧ w = w' := by
  obtain ⟨rb, rg, rv, rs, h1, h2, h3⟩ := h
  exact gtake_none h1
theorem hasG_len (h : HasG TG TR TE A w0 w b room most wait num den win) :
    Calls Try.prog 13 #[.pointer (some ⟨b, 0, none⟩)] w fun e w' => e = .returned (.int .i64 wait) ∧ w = w' := by
  obtain ⟨rb, rg, rv, rs, h1, h2, h3⟩ := h
  exact glen_any h1
theorem hasG_window (h : HasG TG TR TE A w0 w b room most wait num den win) :
    Calls Try.prog 16 #[.pointer (some ⟨b, 0, none⟩)] w fun e w' => (∃ v, e = .returned v ∧ w'.ownsRow w.heap.size TE 1 v win.length (us win)) ∧ Upd Nowhere w w' := by
  obtain ⟨rb, rg, rv, rs, h1, h2, h3⟩ := h
  exact window_any h1
theorem HasG.facts (h : HasG TG TR TE A w0 w b room most wait num den win) : 1 ≤ room ∧ room ≤ 4096 ∧ wait ≤ room ∧ 1 ≤ most ∧ most ≤ 1024 ∧ win.length ≤ most ∧ num < den ∧ den ≤ 65536 ∧ b < w.heap.size := by
  obtain ⟨rb, rg, rv, rs, h, h2, h3⟩ := h
  exact ⟨h.r1, h.r2, h.r3, h.m1, h.m2, h.m3, h.d1, h.d2, h.blk.lt⟩
end
theorem lives (w : World) : Calls Try.prog 8 #[] w fun e w' => e = .returned (.bool true) ∧ Upd Nowhere w w' := by
  go_enter Try.func8, Try.ntmps8
  go_wp2_with fail
  refine (new_ok w 4 4 0 1 (by omega) (by omega) (by omega) (by omega) (by omega) (by omega)).mono ?_
  rintro e w1 ⟨b, rfl, h1, u1⟩
  have H1 := Lib.hid h1
  have U1 := Lib.hid u1
  clear h1 u1
  go_wp2_with fail
  go_loopw [13] (fun a wr => ∃ (k : Nat), k ≤ 4 ∧ a = .int .i64 k ∧ HasG TG TR TE (fun _ => False) w wr b 4 4 k 0 1 (List.replicate k 5) ∧ Upd Nowhere w wr) (fun a _ => 4 - (intOf a).toNat)
  case atStart => exact ⟨0, by omega, rfl, H1.out, U1.out⟩
  case round =>
    obtain ⟨k, hk, rfl, hG, hU⟩ := hrel
    have HG := Lib.hid hG
    have HU := Lib.hid hU
    clear hG hU H1 U1
    rcases Nat.lt_or_ge k 4 with hlt | hge
    · have hI : (k : Int) < 4 := by omega
      have em : mayB 4 k 0 1 (List.replicate k 5) 5 = true ∧ slid 4 (List.replicate k 5) ++ [((5 : Nat) : Int)] = List.replicate (k + 1) 5 := by
        have h4 : k = 0 ∨ k = 1 ∨ k = 2 ∨ k = 3 := by omega
        rcases h4 with rfl | rfl | rfl | rfl <;> exact ⟨by decide, by decide⟩
      have HO := Lib.hid (hasG_offer HG.out (fun _ h => h.elim) 5 true (k + 1) _ em.1 rfl em.2)
      clear em
      go_wp2_with fail
      refine (HO.out).mono ?_
      rintro e w2 ⟨rfl, h2, u2⟩
      have H2 := Lib.hid h2
      have U2 := Lib.hid u2
      clear h2 u2
      go_wp2_with fail
      go_roundw
      case rel => exact ⟨k + 1, by omega, by go_num, H2.out, past HU.out U2.out⟩
      case measure => simp [intOf]; omega
    · obtain rfl : k = 4 := by omega
      have HO := Lib.hid (hasG_offer HG.out (fun _ h => h.elim) 1 false 4 [5, 5, 5, 1] (by decide) rfl (by decide))
      go_wp2_with fail
      refine (HO.out).mono ?_
      rintro e w2 ⟨rfl, h2, u2⟩
      have HT := Lib.hid (hasG_take (wait := 3) h2 (fun _ h => h.elim))
      have U2 := Lib.hid (past HU.out u2)
      clear h2 u2
      go_wp2_with fail
      refine (HT.out).mono ?_
      rintro e w3 ⟨rfl, h3, u3⟩
      have HM := Lib.hid (hasG_may h3 6 false (by decide))
      have H3 := Lib.hid h3
      have U3 := Lib.hid (past U2.out u3)
      clear h3 u3
      go_wp2_with fail
      refine (HM.out).mono ?_
      rintro e w4 ⟨rfl, q, rfl⟩
      have HM2 := Lib.hid (hasG_may (H3.out.old ((Upd.refl _ _).drewN q)) 5 true (by decide))
      go_wp2_with fail
      refine (HM2.out).mono ?_
      rintro e w4 ⟨rfl, q2, rfl⟩
      go_wp2_with fail
      go_ret
      exact ⟨rfl, U3.out.drewN _⟩
theorem may_nil (r : Int) (w : World) : Calls Try.prog 9 #[.pointer none, .int .u64 r] w fun e w' => e = .returned (.bool false) ∧ ∃ q, w' = w.drewN q := by
  go_enter Try.func9, Try.ntmps9
  go_wp2_with fail
  go_quiet (fail)
  go_wp2_with fail
  go_ret
  exact ⟨rfl, _, rfl⟩
theorem offer_nil (r : Int) (w : World) : Calls Try.prog 11 #[.pointer none, .int .u64 r] w fun e w' => e = .returned (.bool false) ∧ w = w' := by
  go_enter Try.func11, Try.ntmps11
  go_wp2_with fail
  go_ret
  exact ⟨rfl, rfl⟩
theorem nobody_law (r : Int) (w : World) : Calls Try.prog 5 #[.int .u64 r] w fun e w' => e = .returned (.bool true) ∧ Upd Nowhere w w' := by
  have HL := fun u => Lib.hid (lives u)
  go_enter Try.func5, Try.ntmps5
  go_wp2_with fail
  refine (may_nil r _).mono ?_
  rintro e w1 ⟨rfl, q, rfl⟩
  go_wp2_with fail
  refine (offer_nil r _).mono ?_
  rintro e w1 ⟨rfl, rfl⟩
  go_wp2_with fail
  refine (gtake_nil _).mono ?_
  rintro e w1 ⟨rfl, rfl⟩
  go_wp2_with fail
  refine (glen_nil _).mono ?_
  rintro e w1 ⟨rfl, rfl⟩
  go_wp2_with fail
  refine (window_nil _).mono ?_
  rintro e w1 ⟨rfl, rfl⟩
  go_wp2_with fail
  refine ((HL _).out).mono ?_
  rintro e w1 ⟨rfl, u1⟩
  go_wp2_with fail
  go_ret
  exact ⟨rfl, ((Upd.refl Nowhere w).drewN q).trans u1 (fun _ _ h => h)⟩
end Go.Proofs.Ytgppbclgabdkoaa.Aifo
