/- DrrPlays: the walk. -/
import Derived.Test.YtopibbaopglggaaDrrPlays
namespace Go.Proofs.Ytopibbaopglggaa.Drr
open Go.RowKit Go.Proofs BigFrame
open Ref29 (R It Of perC irow cof)
set_option maxHeartbeats 1000000
set_option maxRecDepth 1000000
/-- What the last region of a round keeps. -/
def Kp (wd w1 : World) (a1 : Addr) (v1 : Value) (a2 : Addr) (v2 : Value) : Prop := Upd Nowhere wd w1 ∧ w1.cell? a1 = some v1 ∧ w1.cell? a2 = some v2
theorem Kp.old {wd w1 w2 : World} {a1 a2 : Addr} {v1 v2 : Value} (h : Kp wd w1 a1 v1 a2 v2) (hu : Upd Nowhere w1 w2) : Kp wd w2 a1 v1 a2 v2 := ⟨h.1.trans hu (fun _ _ h => h), cell_old hu h.2.1, cell_old hu h.2.2⟩
section
variable {x : Option Nat} {cs : Array Value} {w0 wd w1 : World} {t b n gq oq cq : Nat} {q : Nat → Nat} {st : Turn} {its : Items} {st2 : Turn} {items : List It} {a1 a2 : Addr} {v1 v2 : Value} {cv iv rv : Value}
theorem s_len (h : P0 x cs w0 wd t b n gq oq cq q st its st2 items cv iv rv) {m : Nat} (hm : tot its n = m) (hS : Upd Nowhere wd w1 ∧ w1.cell? a1 = some v1 ∧ w1.cell? a2 = some v2) :
    Calls Try.prog 33 #[.pointer (some ⟨t, 0, none⟩)] w1 fun e w2 => e = .returned (.int .i64 (m : Nat)) ∧ Upd Nowhere w1 w2 ∧ (Upd Nowhere wd w2 ∧ w2.cell? a1 = some v1 ∧ w2.cell? a2 = some v2) := by
  refine (hasD_len (h.has.old hS.1)).mono ?_
  rintro e w2 ⟨rfl, rfl⟩
  exact ⟨by rw [hm], Upd.refl _ _, hS⟩
theorem s_row (h : P0 x cs w0 wd t b n gq oq cq q st its st2 items cv iv rv) (hS : Upd Nowhere wd w1 ∧ w1.cell? a1 = some v1 ∧ w1.cell? a2 = some v2) :
    Calls Try.prog 34 #[.pointer (some ⟨t, 0, none⟩)] w1 fun e w2 => ∃ v', e = .returned v' ∧ RowAt w2 v' (Ref06.ints (st.row.map fun x => ((x : Nat) : Int))) ∧ Upd Nowhere w1 w2 ∧ (Upd Nowhere wd w2 ∧ w2.cell? a1 = some v1 ∧ w2.cell? a2 = some v2) := by
  refine (hasD_row (h.has.old hS.1)).mono ?_
  rintro e w2 ⟨v', rfl, hr, hu⟩
  refine ⟨v', rfl, ?_, hu, Kp.old hS hu⟩
  unfold Ref06.ints
  rw [List.map_map]
  exact hr
theorem s_cred (h : P0 x cs w0 wd t b n gq oq cq q st its st2 items cv iv rv) {c : Int} (hc : c < 0 ∨ (n : Int) ≤ c) (hS : Upd Nowhere wd w1 ∧ w1.cell? a1 = some v1 ∧ w1.cell? a2 = some v2) :
    Calls Try.prog 39 #[.pointer (some ⟨t, 0, none⟩), .int .i64 c] w1 fun e w2 => e = .returned (.int .u64 0) ∧ Upd Nowhere w1 w2 ∧ (Upd Nowhere wd w2 ∧ w2.cell? a1 = some v1 ∧ w2.cell? a2 = some v2) := by
  refine (hasD_credit0 (h.has.old hS.1) hc).mono ?_
  rintro e w2 ⟨rfl, rfl⟩
  exact ⟨rfl, Upd.refl _ _, hS⟩
theorem s_same (h : P0 x cs w0 wd t b n gq oq cq q st its st items cv iv rv) {va : Value} (ha : RowAt w1 va (Ref06.ints (st.row.map fun x => ((x : Nat) : Int)))) (hS : Upd Nowhere wd w1 ∧ w1.cell? a1 = some v1 ∧ w1.cell? a2 = some v2) :
    Calls Try.prog 40 #[va, rv] w1 fun e w2 => e = .returned (.bool true) ∧ Upd Nowhere w1 w2 ∧ (Upd Nowhere wd w2 ∧ w2.cell? a1 = some v1 ∧ w2.cell? a2 = some v2) := by
  have hb := ownsRow_rowAt (h.ref.old hS.1).rww
  have hb2 : RowAt w1 rv (Ref06.ints (st.row.map fun x => ((x : Nat) : Int))) := by
    unfold Ref06.ints; rw [List.map_map]; exact hb
  have hl := h.has.fits.rlen
  have hn := h.has.npos
  refine (Ref06.same_any w1 va rv _ _ ha hb2 (by simp; omega) (by simp; omega)).mono ?_
  rintro e w2 ⟨rfl, k, rfl⟩
  have hu : Upd Nowhere w1 (w1.drewN k) := (Upd.refl _ _).drewN k
  exact ⟨by simp, hu, Kp.old hS hu⟩
end
theorem P.rown {x : Option Nat} {cs : Array Value} {w0 w : World} {t b n gq oq cq : Nat} {q : Nat → Nat} {st : Turn} {its : Items} {st2 : Turn} {items : List It} (h : P x cs w0 w t b n gq oq cq q st its st2 items) : st.row = [] ↔ tot its n = 0 := by
  obtain ⟨cv, iv, rv, h0⟩ := h; exact h0.has.row_nil
theorem blk12 {k : Nat} {a0 a1 a2 : Value} {w0 w : World} {t b n gq oq cq : Nat} {q : Nat → Nat} {st : Turn} {its : Items} {st2 : Turn} {items : List It} (h : P (some k) #[a0, a1, a2] w0 w t b n gq oq cq q st its st2 items) : w.cell? ⟨k, 1, none⟩ = some a1 ∧ w.cell? ⟨k, 2, none⟩ = some a2 := by
  obtain ⟨_, j1, j2, _⟩ := cells3 h.blk; exact ⟨j1, j2⟩
/-- What a round starts with. -/
def Rd (w wr : World) (t b n gq oq cq : Nat) (q : Nat → Nat) : Prop := ∃ st items, (∀ e ∈ items, e.1 < n) ∧ P none #[] w wr t b n gq oq cq q st (perC items) st items
theorem round_len {w wr : World} {x : Option Nat} {cs : Array Value} {t b n gq oq cq : Nat} {q : Nat → Nat} {st st2 : Turn} {items : List It} (h : P x cs w wr t b n gq oq cq q st (perC items) st2 items) (hi : ∀ e ∈ items, e.1 < n) : tot (perC items) n = items.length ∧ items.length ≤ 65536 := by
  have h1 := Ref29.perC_len hi
  obtain ⟨cv, iv, rv, h0⟩ := h
  have h2 := h0.has.tot_le
  omega
theorem plays_ok (ga0 oa0 ca0 : Nat) (l : List Nat) (h1 : 1 ≤ l.length) (h2 : l.length ≤ 64) (hg : l.all good = true) (ad2 : Option Addr) (ca2 : Nat) (acts : List (Bool × Int × Nat)) (h3 : acts.length ≤ 200) (hact : ∀ a ∈ acts, a.2.2 ≤ 18446744073709551615) (w : World)
    (hc : ∀ (j x : Nat), l[j]? = some x → w.cell? ⟨ga0, oa0 + j, none⟩ = some (.int .u64 (x : Nat))) (hga : ga0 < w.heap.size)
    (h02 : ad2 = none → acts = []) (hc2 : ∀ g, ad2 = some g → ∀ (j : Nat) (v : Value), (acts.flatMap actv)[j]? = some v → g.spot = none ∧ w.cell? ⟨g.block, g.off + j, none⟩ = some v) :
    Calls Try.prog 9 #[.slice (some ⟨ga0, oa0, none⟩) l.length ca0, .slice ad2 acts.length ca2] w fun e w' => e = .returned (.bool true) ∧ Upd Nowhere w w' := by
  have HNew := Lib.hid (new_some w (some ⟨ga0, oa0, none⟩) ca0 l h1 h2 (fun h => by cases h) (fun g hg' j x hx => by cases hg'; exact ⟨rfl, hc j x hx⟩))
  have HChk := fun u (hu : Upd Nowhere w u) => Lib.hid (Ref29.check_any u (some ⟨ga0, oa0, none⟩) ca0 l (fun h => by cases h) (fun g hg' j x hx => by cases hg'; exact ⟨rfl, cell_old hu (hc j x hx)⟩))
  have hck : checkOf l = 0 := by unfold checkOf; rw [if_neg (by omega), if_pos hg]
  rw [hck] at HChk
  obtain ⟨n, hn⟩ : ∃ n, l.length = n := ⟨_, rfl⟩
  obtain ⟨N, hN⟩ : ∃ N, acts.length = N := ⟨_, rfl⟩
  have HRN := fun u (hu : Upd Nowhere w u) => Lib.hid (Ref29.new_any u n ga0 oa0 ca0 (fun i => l.getD i 0) (by omega) (fun i hi => by
    have hx : l[i]? = some (l.getD i 0) := by rw [List.getElem?_eq_getElem (by omega)]; simp [List.getD, List.getElem?_eq_getElem (show i < l.length by omega)]
    exact cell_old hu (hc i _ hx)) (Nat.lt_of_lt_of_le hga hu.size))
  rw [hn] at h1 h2 HNew HChk ⊢
  rw [hN] at h3 ⊢
  have t0 : decide ((n : Int) > 100) = false := decide_eq_false (by omega)
  have t1 : decide (100 < (n : Int)) = false := decide_eq_false (by omega)
  have t2 : decide ((N : Int) > 200) = false := decide_eq_false (by omega)
  have t3 : decide (200 < (N : Int)) = false := decide_eq_false (by omega)
  have HG := Lib.hid hg
  have HN := Lib.hid hn
  have HNN := Lib.hid hN
  have HACT := Lib.hid hact
  have H02 := Lib.hid h02
  have HC2 := Lib.hid hc2
  have hn65 : n ≤ 64 := h2
  have hN200 : N ≤ 200 := h3
  clear hg hn hN hact hc h02 hc2 hck h2 h3
  go_enter Try.func9, Try.ntmps9
  go_wp2_with fail
  refine HNew.out.mono ?_
  rintro e wn ⟨hun, hres⟩
  rcases hres with ⟨-, hbad⟩ | ⟨-, t, rfl, hmade⟩
  · rw [HG.out] at hbad; cases hbad
  have HUN := Lib.hid hun
  have HM := Lib.hid hmade
  clear hmade HNew
  go_wp2_with fail
  refine (HChk _ HUN.out).out.mono ?_
  rintro e w' ⟨rfl, rfl⟩
  clear HChk
  go_wp2_with fail
  refine (HRN _ HUN.out).out.mono ?_
  rintro e w3 ⟨cv, rfl, hR, hu3⟩
  obtain ⟨b, hbb⟩ : ∃ b, wn.heap.size = b := ⟨_, rfl⟩
  have hst : Rd w w3 t b n ga0 oa0 ca0 (fun i => l.getD i 0) := by
    have hh := hasD_new HM.out HUN.out HG.out
    rw [HN.out] at hh
    have hR' := hR
    rw [hbb] at hR
    have hlow : ∀ k, Of b cv (.slice none 0 0) (.slice none 0 0) k → wn.heap.size ≤ k := fun k hk => (hR'.lts (by rw [hbb]; exact hk)).1
    have hsz := HUN.out.size
    refine ⟨fresh, [], (fun e he => by cases he), cv, _, _, ⟨(hh.re (fun k hk => ?_)).old hu3, { hR with qb := hga, crd := ownsRow_base hR.crd (by omega), itm := ownsRow_nil _ _ _ _, rww := ownsRow_nil _ _ _ _, low := by omega }, HUN.out.trans hu3 (fun _ _ h => h), fun k hk => by cases hk⟩⟩
    rcases hk with hk | hk
    · exact .inr (hlow k hk)
    · cases hk
  rw [hbb]
  clear HRN HM hR hbb HUN hu3 hun
  go_wp2_with fail
  go_loopw [51] (fun i wr => ∃ (k : Nat), k ≤ N ∧ i = .int .i64 k ∧ Rd w wr t b n ga0 oa0 ca0 (fun i => l.getD i 0)) (fun i _ => N - (intOf i).toNat)
  case atStart => exact ⟨0, by omega, rfl, hst⟩
  case round =>
    obtain ⟨k, hk, rfl, st, items, hin, hpl⟩ := hrel
    obtain ⟨wB, rfl⟩ : ∃ x, x = wr := ⟨_, rfl⟩
    have HP := Lib.hid hpl
    have HIN := Lib.hid hin
    clear hpl hst hin
    by_cases hlt : k < N
    · have hI : (k : Int) < N := by omega
      obtain ⟨⟨ki, C, Z⟩, hx⟩ : ∃ a, acts[k]? = some a := ⟨acts[k]'(by rw [HNN.out]; exact hlt), by simp⟩
      have hZ := HACT.out _ (List.mem_of_getElem? hx)
      simp only at hZ
      obtain ⟨ga, oa, rfl⟩ : ∃ ga oa, ad2 = some ⟨ga, oa, none⟩ := by
        cases ad2 with
        | none => have := H02.out rfl; rw [this] at hx; cases hx
        | some b' =>
          have hs := (HC2.out b' rfl _ _ (actv_at hx (j := 0) rfl)).1
          obtain ⟨g, o, sp⟩ := b'
          simp only at hs
          subst hs
          exact ⟨g, o, rfl⟩
      have r0 : wB.cell? ⟨ga, oa + k * 3, none⟩ = some (.bool ki) := cell_old HP.out.upd (HC2.out _ rfl _ _ (actv_at hx (j := 0) rfl)).2
      have r1 : wB.cell? ⟨ga, oa + (k * 3 + 1), none⟩ = some (.int .i64 C) := cell_old HP.out.upd (HC2.out _ rfl _ _ (actv_at hx (j := 1) rfl)).2
      have r2 : wB.cell? ⟨ga, oa + (k * 3 + 2), none⟩ = some (.int .u64 (Z : Nat)) := cell_old HP.out.upd (HC2.out _ rfl _ _ (actv_at hx (j := 2) rfl)).2
      have r1' : wB.cell? ⟨ga, oa + k * 3 + 1, none⟩ = some (.int .i64 C) := by rw [Nat.add_assoc]; exact r1
      have r2' : wB.cell? ⟨ga, oa + k * 3 + 2, none⟩ = some (.int .u64 (Z : Nat)) := by rw [Nat.add_assoc]; exact r2
      clear hx
      have hlen := round_len HP.out HIN.out
      have HA : Hid (P (some wB.heap.size) #[.bool ki, .int .i64 C, .int .u64 (Z : Nat)] w (wB.alloc (.cells #[.bool ki, .int .i64 C, .int .u64 (Z : Nat)] TAc)) t b n ga0 oa0 ca0 (fun i => l.getD i 0) st (perC items) st items) := Lib.hid (HP.out.some _)
      clear HP
      go_upto_if 57 with fail
      obtain ⟨wA, hwA⟩ : ∃ wA, wB.alloc (.cells #[.bool ki, .int .i64 C, .int .u64 (Z : Nat)] TAc) = wA := ⟨_, rfl⟩
      rw [hwA] at HA ⊢
      go_cut [11, 12, 13, 14, 15, 16, 51] from 51 to 153 (fun _ _ _ _ _ _ i wc => i = .int .i64 k ∧ Rd w wc t b n ga0 oa0 ca0 (fun i => l.getD i 0))
      case first =>
        as_aux_lemma =>
          obtain ⟨j0, j1, j2, y0, y1, y2⟩ := cells3 HA.out.blk
          cases ki with
          | true =>
            by_cases hrow : st.row = []
            · have hz := HA.out.rown.1 hrow
              have HZ := Lib.hid hz
              have HROW := Lib.hid hrow
              clear hz hrow
              go_wp2_with fail
              refine (t_next0 HA.out HZ.out).mono ?_
              rintro e w4 ⟨rfl, h4⟩
              have H4 := Lib.hid h4
              clear h4
              go_wp2_with fail
              refine (r_next0 H4.out HROW.out).mono ?_
              rintro e w5 ⟨rfl, h5⟩
              have H5 := Lib.hid h5
              clear h5
              go_wp2_with fail
              go_meet
              exact ⟨rfl, st, items, HIN.out, (H5.out.old ((Upd.refl _ _).alloc _)).none⟩
            · have hf := HA.out.fits
              obtain ⟨hf2, c, r, cr, hsp, hle⟩ := spin_ends (meas n st + 1) st hf (Nat.lt_succ_self _) hrow
              rw [hsp] at hf2
              obtain ⟨-, ⟨z0, z1⟩, tl, hxc⟩ := hf2.head rfl
              have HF := Lib.hid hf
              have HSP := Lib.hid hsp
              have HROW := Lib.hid hrow
              have HXC := Lib.hid hxc
              have e4 : ((c : Int) != c) = false := by simp
              have e5 : ((z0 : Int) != z0) = false := by simp
              have e6 : (z1 != z1) = false := by simp
              have hl7 : items.length ≤ 70000 := by omega
              clear hf hf2 hsp hle hrow hxc
              go_wp2_with fail
              refine (t_next HA.out HSP.out HROW.out HXC.out).mono ?_
              rintro e w4 ⟨rfl, h4⟩
              have H4 := Lib.hid h4
              clear h4
              go_wp2_with fail
              refine (r_next H4.out HF.out hl7 HSP.out HROW.out HXC.out).mono ?_
              rintro e w5 ⟨rfl, items', hp5, hi5, h5⟩
              rw [← hp5] at h5
              have H5 := Lib.hid h5
              have HI5 := Lib.hid hi5
              clear h5 hp5 hi5
              go_wp2_with fail
              go_meet
              exact ⟨rfl, _, items', fun e he => HIN.out e (HI5.out e he), (H5.out.old ((Upd.refl _ _).alloc _)).none⟩
          | false =>
            go_upto_region 18 with fail
            by_cases hC : C < 0 ∨ (n : Int) ≤ C
            · have HC := Lib.hid hC
              clear hC
              have HAd := HA.out.old ((Upd.refl Nowhere wA).drew)
              go_region_held3 (fun w' => w'.cell? ⟨wB.heap.size, 1, none⟩ = some (.int .i64 C) ∧ w'.cell? ⟨wB.heap.size, 2, none⟩ = some (.int .u64 (Z : Nat))) (first | exact ⟨j1, j2⟩ | assumption) (first
                | (go_at_call 21; (first | refine (t_push7 h12 HC.out _ _).mono ?_ | refine (t_push7 HAd HC.out _ _).mono ?_); rintro e w11 ⟨rfl, h11⟩; have hS11 := blk12 h11)
                | (go_at_call 38; (first | refine (r_push7 h11 HC.out _ _).mono ?_ | refine (r_push7 HAd HC.out _ _).mono ?_); rintro e w12 ⟨rfl, h12⟩; have hS12 := blk12 h12))
              all_goals
                go_wp2_with fail
                go_meet
                first | exact ⟨rfl, st, items, HIN.out, h12.none⟩ | exact ⟨rfl, st, items, HIN.out, h11.none⟩
            · obtain ⟨c, rfl⟩ : ∃ c : Nat, C = c := ⟨C.toNat, by omega⟩
              have hcn : c < n := by omega
              by_cases hZ2 : Z = 0 ∨ 65535 < Z
              · have HZ2 := Lib.hid hZ2
                clear hZ2 hC
                have HAd := HA.out.old ((Upd.refl Nowhere wA).drew)
                go_region_held3 (fun w' => w'.cell? ⟨wB.heap.size, 1, none⟩ = some (.int .i64 (c : Nat)) ∧ w'.cell? ⟨wB.heap.size, 2, none⟩ = some (.int .u64 (Z : Nat))) (first | exact ⟨j1, j2⟩ | assumption) (first
                  | (go_at_call 21; (first | refine (t_push12 h12 hcn Z _ HZ2.out).mono ?_ | refine (t_push12 HAd hcn Z _ HZ2.out).mono ?_); rintro e w11 ⟨rfl, h11⟩; have hS11 := blk12 h11)
                  | (go_at_call 38; (first | refine (r_push12 h11 hcn Z _ HZ2.out).mono ?_ | refine (r_push12 HAd hcn Z _ HZ2.out).mono ?_); rintro e w12 ⟨rfl, h12⟩; have hS12 := blk12 h12))
                all_goals
                  go_wp2_with fail
                  go_meet
                  first | exact ⟨rfl, st, items, HIN.out, h12.none⟩ | exact ⟨rfl, st, items, HIN.out, h11.none⟩
              · have hz1 : 1 ≤ Z := by omega
                have hz2 : Z ≤ 65535 := by omega
                have hl7 : items.length ≤ 70000 := by omega
                have hrl : st.row.length ≤ 64 := by have := HA.out.fits.rlen; omega
                by_cases hl : (perC items c).length = 1024
                · have HL := Lib.hid hl
                  clear hl hC hZ2
                  have HAd := HA.out.old ((Upd.refl Nowhere wA).drew)
                  go_region_held3 (fun w' => w'.cell? ⟨wB.heap.size, 1, none⟩ = some (.int .i64 (c : Nat)) ∧ w'.cell? ⟨wB.heap.size, 2, none⟩ = some (.int .u64 (Z : Nat))) (first | exact ⟨j1, j2⟩ | assumption) (first
                    | (go_at_call 21; (first | refine (t_push20 h12 hcn Z _ hz1 hz2 HL.out).mono ?_ | refine (t_push20 HAd hcn Z _ hz1 hz2 HL.out).mono ?_); rintro e w11 ⟨rfl, h11⟩; have hS11 := blk12 h11)
                    | (go_at_call 38; (first | refine (r_push20 h11 hl7 hcn Z _ hz1 hz2 HL.out).mono ?_ | refine (r_push20 HAd hl7 hcn Z _ hz1 hz2 HL.out).mono ?_); rintro e w12 ⟨rfl, h12⟩; have hS12 := blk12 h12))
                  all_goals
                    go_wp2_with fail
                    go_meet
                    first | exact ⟨rfl, st, items, HIN.out, h12.none⟩ | exact ⟨rfl, st, items, HIN.out, h11.none⟩
                · have hl2 : (perC items c).length < 1024 := by have := HA.out.fits.len c hcn; omega
                  have HL := Lib.hid hl2
                  clear hl hl2 hC hZ2
                  have HIN2 := Lib.hid (fun (e : It) (he : e ∈ items ++ [(c, Z, (k : Int))]) => show e.1 < n by
                    rcases List.mem_append.1 he with he | he
                    · exact HIN.out e he
                    · obtain rfl := List.mem_singleton.1 he; exact hcn)
                  have HAd := HA.out.old ((Upd.refl Nowhere wA).drew)
                  go_region_held3 (fun w' => w'.cell? ⟨wB.heap.size, 1, none⟩ = some (.int .i64 (c : Nat)) ∧ w'.cell? ⟨wB.heap.size, 2, none⟩ = some (.int .u64 (Z : Nat))) (first | exact ⟨j1, j2⟩ | assumption) (first
                    | (go_at_call 21; (first | refine (t_push h12 hcn Z _ hz1 hz2 HL.out).mono ?_ | refine (t_push HAd hcn Z _ hz1 hz2 HL.out).mono ?_); rintro e w11 ⟨rfl, h11⟩; have hS11 := blk12 h11)
                    | (go_at_call 38; (first | refine (r_push h11 hl7 hrl hcn Z _ hz1 hz2 HL.out).mono ?_ | refine (r_push HAd hl7 hrl hcn Z _ hz1 hz2 HL.out).mono ?_); rintro e w12 ⟨rfl, h12⟩; have hS12 := blk12 h12))
                  all_goals
                    go_wp2_with fail
                    go_meet
                    first | exact ⟨rfl, _, items ++ [(c, Z, (k : Int))], HIN2.out, by rw [Ref29.perC_push]; exact h12.none⟩ | exact ⟨rfl, _, items ++ [(c, Z, (k : Int))], HIN2.out, by rw [Ref29.perC_push]; exact h11.none⟩
      case rest =>
        as_aux_lemma =>
          obtain ⟨rfl, st3, items3, hin3, cv, iv, rv, h0⟩ := hcut
          have hl3 := round_len ⟨cv, iv, rv, h0⟩ hin3
          obtain ⟨gcr, ccr, rfl⟩ := h0.ref.cform h1
          obtain ⟨ai, ci, rfl⟩ := Ref29.own_form h0.ref.itm
          obtain ⟨L, hL⟩ : ∃ L, items3.length = L := ⟨_, rfl⟩
          have htot : tot (perC items3) n = L := by omega
          have hP3 : P none #[] w wc t b n ga0 oa0 ca0 (fun i => l.getD i 0) st3 (perC items3) st3 items3 := ⟨_, _, _, h0⟩
          rw [hL] at h0
          obtain ⟨c0, c1, c2, c3, c4, z0, z1, z2, z3, z4⟩ := cells5 h0.ref.blk
          have H0 := Lib.hid h0
          have HP3 := Lib.hid hP3
          have HIN3 := Lib.hid hin3
          have HTOT := Lib.hid htot
          clear h0 hP3 hin3 htot hl3 hL HA hwA r0 r1 r2 r1' r2' hlen z0 z1 z2 z3 z4 c0 c4
          go_wp2_with fail
          go_loopw [108] (fun i wr => ∃ j : Nat, j ≤ n ∧ i = .int .i64 j ∧ Upd Nowhere wc wr) (fun i _ => n - (intOf i).toNat)
          case atStart => exact ⟨0, by omega, rfl, Upd.refl _ _⟩
          case round =>
            obtain ⟨j, hj, rfl, hu⟩ := hrel
            obtain ⟨wD, rfl⟩ : ∃ x, x = wr := ⟨_, rfl⟩
            have HU := Lib.hid hu
            have b1 := cell_old hu c1
            have b2 := cell_old hu c2
            have b3 := cell_old hu c3
            clear hu
            by_cases hlt2 : j < n
            · have hJ : (j : Int) < n := by omega
              obtain ⟨kc, yc⟩ := (H0.out.ref.old HU.out).ccell hlt2
              have HCd := fun u (hu : Upd Nowhere wD u) => Lib.hid (hasD_credit ((H0.out.has.old HU.out).old hu) hlt2)
              generalize st3.cr j = y at *
              have e7 : ((y : Int) != y) = false := by simp
              go_upto_region 23 with fail
              go_quiet ((go_at_call 39; exact quiet_same (HCd _ ((Upd.refl _ _).drewN _)).out))
              go_wp2_with fail
              go_roundw
              case rel => exact ⟨j + 1, by omega, by go_num, HU.out.drewN _⟩
              case measure => simp [intOf]; omega
            · obtain rfl : j = n := by omega
              have e7 : ((L : Int) != L) = false := by simp
              have HD := Lib.hid (H0.out.old HU.out)
              go_upto_region 26 with fail
              have hS0 := (Upd.refl Nowhere wD).drew
              go_region_held3 (fun w' => Upd Nowhere wD w' ∧ w'.cell? ⟨b, 2, none⟩ = some (.slice ai L ci) ∧ w'.cell? ⟨b, 3, none⟩ = some rv) (first | exact ⟨hS0, b2, b3⟩ | assumption) (first
                | (go_at_call 33; refine (s_len HD.out HTOT.out (by assumption)).mono ?_; rintro e w11 ⟨rfl, hu11, hS11⟩)
                | (go_at_call 34; refine (s_row HD.out (by assumption)).mono ?_; rintro e w12 ⟨v12, rfl, hr12, hu12, hS12⟩)
                | (go_at_call 40; refine (s_same HD.out (by first | exact hr12 | exact hr12.old hu11) (by assumption)).mono ?_; rintro e w13 ⟨rfl, hu13, hS13⟩)
                | (go_at_call 39; refine (s_cred HD.out (by omega) (by assumption)).mono ?_; rintro e w14 ⟨rfl, hu14, hS14⟩))
              all_goals
                rename_i hSF
                go_wp2_with fail
                go_roundw
                case rel => exact ⟨k + 1, by omega, by go_num, st3, items3, HIN3.out, HP3.out.old (HU.out.trans hSF.1 (fun _ _ h => h))⟩
                case measure => simp [intOf]; omega
    · obtain rfl : k = N := by omega
      go_wp2_with fail
      refine ((lives _)).mono ?_
      rintro e w' ⟨rfl, hu⟩
      go_wp2_with fail
      go_ret
      exact ⟨rfl, HP.out.upd.trans hu (fun _ _ h => h)⟩
end Go.Proofs.Ytopibbaopglggaa.Drr
