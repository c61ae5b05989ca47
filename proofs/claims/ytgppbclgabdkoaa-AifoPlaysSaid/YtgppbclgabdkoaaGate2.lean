/- aifo's gate: Offer. -/
import Derived.Test.YtgppbclgabdkoaaGate
import Derived.Test.YtgppbclgabdkoaaGateCore2
import Derived.Deep.DeepCutAuto
namespace Go.Proofs.Ytgppbclgabdkoaa.Aifo
open Go.RowKit Go.Proofs BigFrame
open RingU (TR TE)
set_option maxHeartbeats 4000000
set_option maxRecDepth 1000000
theorem rise_insert {w : World} {v : Value} {rs : List Int} (x : Int) (h : Rising w v rs) (hs : rs.Pairwise (· ≤ ·)) (hn : rs.length ≤ 4096) :
    Calls Try.prog 23 #[v, .int .u64 x] w fun e w' => ∃ v, e = .returned v ∧ Rising w' v (ins rs x) ∧ NewRow w v ∧ Upd Nowhere w w' := by
  rcases h with ⟨rfl, rfl⟩ | ⟨g, c, rfl, h1, h2, h3⟩
  · exact insert_nil x w
  · exact insert_some g 0 rs.length c rs x w rfl h1 hn (fun j u hj => by rw [Nat.zero_add]; exact h3 j u hj) hs
theorem rise_remove {w : World} {v : Value} {rs : List Int} (x : Int) (h : Rising w v rs) (hs : rs.Pairwise (· ≤ ·)) (hn : rs.length ≤ 4096) (hx : x ∈ rs) :
    Calls Try.prog 21 #[v, .int .u64 x] w fun e w' => ∃ v, e = .returned v ∧ Rising w' v (del rs x) ∧ NewRow w v ∧ Upd Nowhere w w' := by
  rcases h with ⟨rfl, rfl⟩ | ⟨g, c, rfl, h1, h2, h3⟩
  · cases hx
  · obtain ⟨m, hm⟩ : ∃ m, rs.length = m + 1 := ⟨rs.length - 1, by cases rs with | nil => cases hx | cons a r => simp⟩
    rw [hm]
    exact remove_some g 0 m c rs x w hm (by omega) (by omega) (fun j u hj => by rw [Nat.zero_add]; exact h3 j u hj) hs hx
/-- The window behind an offer: the oldest goes where it is full. -/
def slid (most : Nat) (win : List Int) : List Int := if win.length < most then win else win.tail
theorem offer_any {w : World} {b rb : Nat} {rg : Option Nat} {rv : Value} {room most wait num den : Nat} {win rs : List Int} (h : GateIn TG TR TE w b rb rg rv room most wait num den win rs) (rank : Nat) :
    Calls Try.prog 11 #[.pointer (some ⟨b, 0, none⟩), .int .u64 rank] w fun e w' => e = .returned (.bool (mayB room wait num den win rank)) ∧
      GateTurned TG TR TE w w' b rb rg rv room most (if mayB room wait num den win rank then wait + 1 else wait) num den (slid most win ++ [(rank : Int)]) := by
  obtain ⟨c0, c1, c2, c3, c4, c5, z0, z1, z2, z3, z4, z5⟩ := cells6 h.blk
  have hmay := may_any h rank
  obtain ⟨mb, hmb, hmw⟩ : ∃ mb, mayB room wait num den win rank = mb ∧ (mb = true → wait < room) := ⟨_, rfl, fun h => (of_decide_eq_true h).1⟩
  rw [hmb] at hmay ⊢
  obtain ⟨wa, hwa⟩ : ∃ t, (if mb then wait + 1 else wait) = t := ⟨_, rfl⟩
  rw [hwa]
  have HWA := Lib.hid hwa
  clear hwa
  have HM := Lib.hid hmay
  have H0 := Lib.hid h
  have hr2 := h.r2
  have hm2 := h.m2
  have hm3 := h.m3
  clear hmb hmay h
  go_enter Try.func11, Try.ntmps11
  go_wp2_with fail
  refine (HM.out).mono ?_
  rintro e w1 ⟨rfl, q, rfl⟩
  have hU1 : Upd Nowhere w (w.drewN q) := (Upd.refl _ _).drewN q
  have H1 := Lib.hid (H0.out.old hU1)
  go_upto_if 20 with fail
  generalize w.drewN q = w1 at *
  clear c0 c1 c2 c3 c4 c5 z0 z1 z2 z3 z4 z5 H0 HM
  go_cut [] (fun wx => GateIn TG TR TE wx b rb rg rv room most wa num den win rs ∧ Upd (GateOf b rb rg rv) w wx)
  case first =>
    obtain ⟨c0, c1, c2, c3, c4, c5, z0, z1, z2, z3, z4, z5⟩ := cells6 H1.out.blk
    have e1 : mb = true → IntKind.i64.wrap ((wait : Int) + 1) = ((wait + 1 : Nat) : Int) := fun h => by have := hmw h; rw [IntKind.wrap_i64]; omega
    cases mb with
    | true =>
      have e2 := e1 rfl
      have hlt := hmw rfl
      clear e1 hmw
      go_wp2_with fail
      go_meet
      obtain rfl : wait + 1 = wa := HWA.out
      exact ⟨H1.out.setW (wait + 1) hlt, (hU1.any _).setCell (fun _ => .inl rfl) _⟩
    | false =>
      clear e1 hmw
      go_wp2_with fail
      go_meet
      obtain rfl : wait = wa := HWA.out
      exact ⟨H1.out, hU1.any _⟩
  case rest =>
    obtain ⟨h2, hu2⟩ := hcut
    have H2 := Lib.hid h2
    have HU2 := Lib.hid hu2
    clear h2 hu2 H1 hU1 hmw
    obtain ⟨c0, c1, c2, c3, c4, c5, z0, z1, z2, z3, z4, z5⟩ := cells6 H2.out.blk
    obtain ⟨fr, len, hRI⟩ := H2.out.ring
    have r2 := hRI.c2
    have r3 := hRI.c3
    rw [List.length_map] at r2
    clear hRI
    go_upto_if 33 with ((refine (RingU.room_any _ _ _ _ r2 r3 (by omega) (by omega) (by omega)).mono ?_; rintro e w' ⟨rfl, nq, rfl⟩))
    have hU3 : Upd Nowhere wc (wc.drewN nq) := (Upd.refl _ _).drewN nq
    have H3 := Lib.hid (H2.out.old hU3)
    have HU3 := Lib.hid (HU2.out.trans hU3 (fun _ _ h => h.elim))
    generalize wc.drewN nq = w3 at *
    clear c0 c1 c2 c3 c4 c5 z0 z1 z2 z3 z4 z5 r2 r3 H2 HU2 hU3 hm3 fr len
    go_cut [6, 7] (fun a1 a2 wx => GateTurned TG TR TE w wx b rb rg rv room most wa num den (slid most win) ∧ (slid most win).length < most)
    case first =>
      obtain ⟨c0, c1, c2, c3, c4, c5, z0, z1, z2, z3, z4, z5⟩ := cells6 H3.out.blk
      have hm3 := H3.out.m3
      have hm1 := H3.out.m1
      by_cases hf : win.length < most
      · have t0 : ((most : Int) - win.length == 0) = false := by simp; omega
        go_wp2_with fail
        go_meet
        have e : slid most win = win := if_pos hf
        rw [e]
        exact ⟨turned_self H3.out HU3.out, hf⟩
      · have t0 : ((most : Int) - win.length == 0) = true := by simp; omega
        obtain ⟨x, r, hxr⟩ : ∃ x r, win = x :: r := by
          cases win with
          | nil => simp at hf; omega
          | cons x r => exact ⟨x, r, rfl⟩
        subst hxr
        have e : slid most (x :: r) = r := by unfold slid; rw [if_neg hf]; rfl
        have HE := Lib.hid e
        clear e
        obtain ⟨fr, len, hRI⟩ := H3.out.ring
        have HT := Lib.hid (RingU.take_some w3 rb rg most fr len x r hRI)
        clear hRI
        go_wp2_with fail
        refine (HT.out).mono ?_
        rintro e w4 ⟨rfl, ht⟩
        have HTT := Lib.hid ht
        obtain ⟨rg4, hR4, hsn4, hu4⟩ := ht
        have hb4 := H3.out.blk.kept hu4 (fun hk => H3.out.off b hk rfl)
        clear c0 c1 c2 c3 c4 c5 z0 z1 z2 z3 z4 z5
        obtain ⟨c0, c1, c2, c3, c4, c5, z0, z1, z2, z3, z4, z5⟩ := cells6 hb4
        have hRS := H3.out.row.upd hu4 (fun k hk hk2 => (H3.out.voff k hk).2 hk2)
        have hxin : x ∈ rs := H3.out.perm.mem_iff.2 (List.mem_cons_self ..)
        have HRM := Lib.hid (rise_remove x hRS H3.out.srt (by have := H3.out.len; omega) hxin)
        clear hRS hR4 hsn4 hu4 hb4 HT
        go_wp2_with fail
        refine (HRM.out).mono ?_
        rintro e w5 ⟨v5, rfl, hr5, hn5, hu5⟩
        obtain ⟨ad5, ca5, rfl⟩ := hr5.form
        have H5 := Lib.hid (H3.out.swap HTT.out hu5 hr5 hn5 (List.Perm.cons_inv ((del_perm H3.out.srt hxin).symm.trans H3.out.perm)) (del_sorted H3.out.srt) (by simp at hm3; omega))
        have k1 := cell_old hu5 c1
        have y1 : w5.frozen? ⟨b, 1, none⟩ = false := (hu5.frozen 1 (cell_lt c1) id).trans z1
        clear hr5 hn5 hu5 HTT HRM
        go_wp2_with fail
        go_meet
        rw [HE.out]
        exact ⟨turned_trans (fun k hk => .inl hk) HU3.out H5.out, by simp at hm3; omega⟩
    case rest =>
      obtain ⟨ht, hlt⟩ := hcut
      obtain ⟨rg6, rv6, rs6, h6, hb6, hu6⟩ := ht
      have H6 := Lib.hid h6
      have HB6 := Lib.hid hb6
      have HU6 := Lib.hid hu6
      have hW6 := h6.blk.lt
      clear h6 hb6 hu6 H3 HU3
      obtain ⟨c0, c1, c2, c3, c4, c5, z0, z1, z2, z3, z4, z5⟩ := cells6 H6.out.blk
      obtain ⟨fr, len, hRI⟩ := H6.out.ring
      have HP := Lib.hid (RingU.put_room wc rb rg6 most fr len (slid most win) rank hRI hlt)
      clear hRI
      go_wp2_with fail
      refine (HP.out).mono ?_
      rintro e w7 ⟨rfl, ht⟩
      have HTT := Lib.hid ht
      obtain ⟨rg7, hR7, hsn7, hu7⟩ := ht
      have hb7 := H6.out.blk.kept hu7 (fun hk => H6.out.off b hk rfl)
      clear c0 c1 c2 c3 c4 c5 z0 z1 z2 z3 z4 z5
      obtain ⟨c0, c1, c2, c3, c4, c5, z0, z1, z2, z3, z4, z5⟩ := cells6 hb7
      have hRS := H6.out.row.upd hu7 (fun k hk hk2 => (H6.out.voff k hk).2 hk2)
      have HRM := Lib.hid (rise_insert (rank : Int) hRS H6.out.srt (by have := H6.out.len; omega))
      clear hRS hR7 hsn7 hu7 hb7 HP
      go_wp2_with fail
      refine (HRM.out).mono ?_
      rintro e w8 ⟨v8, rfl, hr8, hn8, hu8⟩
      obtain ⟨ad8, ca8, rfl⟩ := hr8.form
      have H8 := Lib.hid (H6.out.swap HTT.out hu8 hr8 hn8 (((ins_perm rs6 rank).trans (H6.out.perm.cons _)).trans (List.perm_append_singleton _ _).symm) (ins_sorted H6.out.srt) (by simp; omega))
      have k1 := cell_old hu8 c1
      have y1 : w8.frozen? ⟨b, 1, none⟩ = false := (hu8.frozen 1 (cell_lt c1) id).trans z1
      clear hr8 hn8 hu8 HTT HRM
      go_wp2_with fail
      go_ret
      exact ⟨rfl, turned_trans HB6.out HU6.out H8.out⟩
end Go.Proofs.Ytgppbclgabdkoaa.Aifo
