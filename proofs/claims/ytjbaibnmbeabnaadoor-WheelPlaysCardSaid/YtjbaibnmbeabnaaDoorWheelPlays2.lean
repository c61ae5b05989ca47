/- wheel's law: what is put in, and what is due: the walk. -/
import Derived.Test.YtjbaibnmbeabnaaDoorWheelPlays
namespace Go.Proofs.YtjbaibnmbeabnaaDoor.Wheel
open Go.RowKit Go.Proofs BigFrame Heap
set_option maxHeartbeats 8000000
set_option maxRecDepth 1000000
theorem plays_ok (room : Nat) (h1 : 1 ≤ room) (h2 : room ≤ 4096) (ad : Option Addr) (ca : Nat) (l : List (Nat × Nat × Int)) (hl : l.length ≤ 200) (hb : ∀ (i : Nat) (a : Nat × Nat × Int), l[i]? = some a → a.1 ≤ 255 ∧ a.2.1 ≤ 18446744073709551615) (w : World)
    (ha0 : ad = none → l.length = 0) (ha : ∀ b, ad = some b → ∀ (j : Nat) (v : Value), (l.flatMap act)[j]? = some v → b.spot = none ∧ w.cell? ⟨b.block, b.off + j, none⟩ = some v) (hT : Tab w) (hG : Tryd.tz64_ren.g 1 < w.heap.size) :
    Calls Tryd.prog 6 #[.int .i64 room, .slice ad l.length ca] w fun e w' => e = .returned (.bool true) ∧ Upd Nowhere w w' := by
  obtain ⟨n, hn⟩ : ∃ n, l.length = n := ⟨_, rfl⟩
  rw [hn] at hl ⊢
  have t0 : decide ((n : Int) > 200) = false := decide_eq_false (by omega)
  have t1 : decide (200 < (n : Int)) = false := decide_eq_false (by omega)
  have t2 : decide (200 < n) = false := decide_eq_false (by omega)
  have Hn := Lib.hid hn
  have Hb := Lib.hid hb
  have Ha0 := Lib.hid ha0
  have Ha := Lib.hid ha
  have HT := fun u (hu : Upd Nowhere w u) => Lib.hid (hT.old hu id)
  have HL := fun u (hu : Upd Nowhere w u) => Lib.hid (lives u (hT.old hu id) (Nat.lt_of_lt_of_le hG hu.size))
  have Hnew := Lib.hid (hasW_new room h1 h2 w)
  have Hmay := fun u => Lib.hid (Ref09.may_any (room : Int) u)
  have hmay : Ref09.mayB (room : Int) = true := by unfold Ref09.mayB; simp; omega
  rw [hmay] at Hmay
  clear hn hb ha0 ha hmay hT
  go_enter Tryd.func6, Tryd.ntmps6
  go_wp2_with fail
  refine (Hnew.out).mono ?_
  rintro e w1 ⟨rfl, hw1, u1⟩
  obtain ⟨b, hbw⟩ : ∃ b, w.heap.size = b := ⟨_, rfl⟩
  have hst : Ws NoB w w1 b room (.slice none 0 0) 0 0 [] := ⟨0, Nat.le_refl _, Nat.le_refl _, Nat.zero_le _, by rw [← hbw]; exact hw1.re (fun q hq => by rcases hq with hq | hq; exact hq.elim; simp [Value.ownBlock] at hq), ownsRow_nil _ _ _ _, u1, fun _ h => h.elim⟩
  clear Hnew hw1 u1
  go_wp2_with fail
  refine ((Hmay _).out).mono ?_
  rintro e w2 ⟨rfl, rfl⟩
  clear Hmay
  go_wp2_with fail
  go_loopw [8, 9, 56] (fun mv nv i wr => ∃ (k now : Nat) (s : List En), k ≤ n ∧ i = .int .i64 k ∧ nv = .int .u64 now ∧ Ws NoB w wr b room mv now k s) (fun _ _ i _ => n - (intOf i).toNat)
  case atStart => exact ⟨0, 0, [], by omega, rfl, rfl, hst⟩
  case round =>
    obtain ⟨k, now, s, hk, rfl, rfl, hws⟩ := hrel
    obtain ⟨wB, rfl⟩ : ∃ x, x = wr := ⟨_, rfl⟩
    have HP := Lib.hid hws
    obtain ⟨came, hck, hsk, hnow, hhw, hrow, hu, _⟩ := hws
    have HU := Lib.hid hu
    have hfit := hhw.fits
    clear hst
    by_cases hlt : k < n
    · have hI : (k : Int) < n := by omega
      obtain ⟨⟨K, R, X⟩, hx⟩ : ∃ a, l[k]? = some a := ⟨l[k]'(by rw [Hn.out]; exact hlt), by simp⟩
      have hK := (Hb.out k _ hx).1
      have hR := (Hb.out k _ hx).2
      simp only at hK hR
      obtain ⟨ga, oa, rfl⟩ : ∃ ga oa, ad = some ⟨ga, oa, none⟩ := by
        cases ad with
        | none => have := Ha0.out rfl; rw [Hn.out] at this; omega
        | some b =>
          have hs := (Ha.out b rfl _ _ (act_at hx (j := 0) rfl)).1
          obtain ⟨g, o, sp⟩ := b
          simp only at hs
          subst hs
          exact ⟨g, o, rfl⟩
      have r0 : wB.cell? ⟨ga, oa + k * 3, none⟩ = some (.int .u8 K) := cell_old hu (Ha.out _ rfl _ _ (act_at hx (j := 0) rfl)).2
      have r1 : wB.cell? ⟨ga, oa + (k * 3 + 1), none⟩ = some (.int .u64 R) := cell_old hu (Ha.out _ rfl _ _ (act_at hx (j := 1) rfl)).2
      have r2 : wB.cell? ⟨ga, oa + (k * 3 + 2), none⟩ = some (.int .i64 X) := cell_old hu (Ha.out _ rfl _ _ (act_at hx (j := 2) rfl)).2
      have r1' : wB.cell? ⟨ga, oa + k * 3 + 1, none⟩ = some (.int .u64 R) := by rw [Nat.add_assoc]; exact r1
      have r2' : wB.cell? ⟨ga, oa + k * 3 + 2, none⟩ = some (.int .i64 X) := by rw [Nat.add_assoc]; exact r2
      clear hx
      have hrow0 : PRow TR w.heap.size wB u8 (itms s) := hrow
      obtain ⟨mad, mca, rfl⟩ := hrow0.form
      obtain ⟨m, hm⟩ : ∃ m, (itms s).length = m := ⟨_, rfl⟩
      have hml : s.length = m := by rw [← hm, itms_len]
      have eK : (K : Int) % 4 = ((K % 4 : Nat) : Int) := rfl
      have hr4 : K % 4 < 4 := Nat.mod_lt _ (by omega)
      generalize K % 4 = r at *
      have hp0 := HP.out
      rw [hm] at hp0 ⊢
      have HA : Hid (Ws (fun q => q = wB.heap.size) w (wB.alloc (.cells #[.int .u8 K, .int .u64 R, .int .i64 X] TA)) b room (.slice mad m mca) now k s) := Lib.hid (hp0.some _)
      have HBL : Hid (Blk (wB.alloc (.cells #[.int .u8 K, .int .u64 R, .int .i64 X] TA)) wB.heap.size #[.int .u8 K, .int .u64 R, .int .i64 X] TA) := Lib.hid (Blk.new _ _ _)
      have HML := Lib.hid hml
      have HMS := Lib.hid hm
      have hm2 : m ≤ 200 := by omega
      have hroom : m ≤ room := by omega
      clear HP hp0 hm hml hhw hrow hrow0 hu HU
      go_upto_block 2 with fail
      obtain ⟨wA, hwA⟩ : ∃ wA, wB.alloc (.cells #[.int .u8 K, .int .u64 R, .int .i64 X] TA) = wA := ⟨_, rfl⟩
      rw [hwA] at HA HBL ⊢
      go_cut [8, 9, 12, 13, 14, 15] from 60 to 114 (fun mv nv _ _ _ _ wc => ∃ (now' : Nat) (s' : List En), nv = .int .u64 now' ∧ Ws NoB w wc b room mv now' (k + 1) s')
      case first =>
        as_aux_lemma =>
          obtain ⟨j0, j1, j2, y0, y1, y2⟩ := cells3 HBL.out
          rcases (show r = 0 ∨ r = 1 ∨ r = 2 ∨ r = 3 by omega) with rfl | rfl | rfl | rfl
          · have eK4 : (K : Int) % 4 = 0 := eK
            clear eK
            by_cases hfit : m < room
            · have d1 : decide (m < room) = true := decide_eq_true hfit
              have d2 : decide ((m : Int) < room) = true := decide_eq_true (by omega)
              go_wp2_with fail
              refine (ws_add HA.out (by omega) (by rw [HML.out]; exact hfit) R hR X).mono ?_
              rintro e w4 ⟨rfl, hu4, hr4, came', hnx⟩
              have HNX := Lib.hid hnx
              have HR4 := Lib.hid hr4
              have hs4 : w.heap.size ≤ w4.heap.size := by have h9 := HA.out; obtain ⟨_, _, _, _, _, _, h8, _⟩ := h9; exact Nat.le_trans h8.size hu4.size
              have hb4 := HBL.out.kept hu4 (fun h9 => h9.2 rfl)
              clear j0 j1 j2 y0 y1 y2 hnx hr4 hu4
              obtain ⟨j0, j1, j2, y0, y1, y2⟩ := cells3 hb4
              go_wp2_with fail
              refine (Ref09.push_any HR4.out (by rw [HMS.out]; omega) R X).mono ?_
              rintro e w5 ⟨mv', rfl, hm1, hm2⟩
              have HW5 := Lib.hid ((HNX.out w5 mv' hm2 (ownsRow_base hm1 hs4) (fun q hq => (hm1.lt q hq).1)).re (X' := NoB) (fun _ h => h.elim))
              clear hm1 hm2 hb4 j0 j1 j2 y0 y1 y2
              go_wp2_with fail
              go_meet
              exact ⟨now, _, rfl, HW5.out⟩
            · have d1 : decide (m < room) = false := decide_eq_false hfit
              have d2 : decide ((m : Int) < room) = false := decide_eq_false (by omega)
              go_wp2_with fail
              refine (ws_full HA.out (by rw [HML.out]; omega) R X).mono ?_
              rintro e w4 ⟨rfl, hw4, hu4⟩
              have HW4 := Lib.hid ((hw4.re (X' := NoB) (fun _ h => h.elim)).more (Nat.le_succ k))
              clear hw4 hu4 j0 j1 j2 y0 y1 y2
              go_wp2_with fail
              go_meet
              exact ⟨now, _, rfl, HW4.out⟩
          · have eK4 : (K : Int) % 4 = 1 := eK
            clear eK
            by_cases hfit : m < room
            · have d1 : decide (m < room) = true := decide_eq_true hfit
              have d2 : decide ((m : Int) < room) = true := decide_eq_true (by omega)
              go_wp2_with fail
              refine (ws_add HA.out (by omega) (by rw [HML.out]; exact hfit) R hR X).mono ?_
              rintro e w4 ⟨rfl, hu4, hr4, came', hnx⟩
              have HNX := Lib.hid hnx
              have HR4 := Lib.hid hr4
              have hs4 : w.heap.size ≤ w4.heap.size := by have h9 := HA.out; obtain ⟨_, _, _, _, _, _, h8, _⟩ := h9; exact Nat.le_trans h8.size hu4.size
              have hb4 := HBL.out.kept hu4 (fun h9 => h9.2 rfl)
              clear j0 j1 j2 y0 y1 y2 hnx hr4 hu4
              obtain ⟨j0, j1, j2, y0, y1, y2⟩ := cells3 hb4
              go_wp2_with fail
              refine (Ref09.push_any HR4.out (by rw [HMS.out]; omega) R X).mono ?_
              rintro e w5 ⟨mv', rfl, hm1, hm2⟩
              have HW5 := Lib.hid ((HNX.out w5 mv' hm2 (ownsRow_base hm1 hs4) (fun q hq => (hm1.lt q hq).1)).re (X' := NoB) (fun _ h => h.elim))
              clear hm1 hm2 hb4 j0 j1 j2 y0 y1 y2
              go_wp2_with fail
              go_meet
              exact ⟨now, _, rfl, HW5.out⟩
            · have d1 : decide (m < room) = false := decide_eq_false hfit
              have d2 : decide ((m : Int) < room) = false := decide_eq_false (by omega)
              go_wp2_with fail
              refine (ws_full HA.out (by rw [HML.out]; omega) R X).mono ?_
              rintro e w4 ⟨rfl, hw4, hu4⟩
              have HW4 := Lib.hid ((hw4.re (X' := NoB) (fun _ h => h.elim)).more (Nat.le_succ k))
              clear hw4 hu4 j0 j1 j2 y0 y1 y2
              go_wp2_with fail
              go_meet
              exact ⟨now, _, rfl, HW4.out⟩
          · have eK4 : (K : Int) % 4 = 2 := eK
            clear eK
            obtain ⟨to', hto⟩ : ∃ x, R = x := ⟨_, rfl⟩
            subst hto
            obtain ⟨to', hto⟩ : ∃ x, x = R := ⟨_, rfl⟩
            subst hto
            have htb := hR
            obtain ⟨nw, hnw⟩ : ∃ x, max now to' = x := ⟨_, rfl⟩
            have q5 : (if now < to' then (to' : Int) else (now : Int)) = (nw : Int) := by rw [← hnw]; split <;> omega
            have q5' : max (now : Int) (to' : Int) = (nw : Int) := by rw [← hnw]; omega
            have HNW := Lib.hid hnw
            clear hnw
            go_wp2_with fail
            refine (ws_rdue (nw := nw) HA.out (by omega)).mono ?_
            rintro e w4 ⟨ov, lv, rfl, hwd⟩
            have HWD := Lib.hid hwd
            have hT4 : Upd Nowhere w w4 := by obtain ⟨_, _, _, _, _, _, _, h9⟩ := hwd; exact h9
            have HDU := Lib.hid (ws_wdue hwd (HT w4 hT4).out hG htb HNW.out)
            clear hwd hT4 j0 j1 j2 y0 y1 y2
            go_wp2_with fail
            refine HDU.out.mono ?_
            rintro e w5 ⟨v, rfl, hr1, hr2, hws5⟩
            obtain ⟨L, hL⟩ : ∃ x, nums (dueOf nw s) = x := ⟨_, rfl⟩
            have hLl : L.length ≤ 1000000 := by rw [← hL]; unfold nums; rw [List.length_map]; have h9 := due_left nw s; have h8 := HML.out; omega
            rw [hL] at hr1 hr2
            have HSM := Lib.hid (Ref06.same_any w5 v ov L L hr1 hr2 hLl hLl)
            have e9 : decide (L = L) = true := by simp
            rw [e9] at HSM
            have HW5 := Lib.hid hws5
            clear hr1 hr2 hws5 hL e9 HDU
            go_wp2_with fail
            refine HSM.out.mono ?_
            rintro e w6 ⟨rfl, nq, rfl⟩
            have HW6 := Lib.hid (HW5.out.old ((Upd.refl Nowhere w5).drewN nq))
            clear HSM
            go_wp2_with fail
            go_meet
            exact ⟨nw, _, rfl, HW6.out⟩
          · have eK4 : (K : Int) % 4 = 3 := eK
            clear eK
            obtain ⟨R1, hR1, hR1b⟩ : ∃ x, R % 1000 = x ∧ x < 1000 := ⟨_, rfl, by omega⟩
            obtain ⟨dd, hdd⟩ : ∃ x, 18446744073709551615 - now = x := ⟨_, rfl⟩
            obtain ⟨zz, hzz⟩ : ∃ x, min R1 dd = x := ⟨_, rfl⟩
            obtain ⟨to', hto⟩ : ∃ x, now + zz = x := ⟨_, rfl⟩
            have q1 : (R : Int) % 1000 = (R1 : Int) := by rw [← hR1]; omega
            have q1' : (R : Int).tmod 1000 = (R1 : Int) := by rw [Int.tmod_eq_emod_of_nonneg (by omega)]; exact q1
            have q2 : IntKind.u64.wrap (18446744073709551615 - (now : Int)) = (dd : Int) := by rw [IntKind.wrap_u64]; omega
            have q3 : (if dd < R1 then (dd : Int) else (R1 : Int)) = (zz : Int) := by rw [← hzz]; split <;> omega
            have q3' : min (R1 : Int) (dd : Int) = (zz : Int) := by rw [← hzz]; omega
            have q4 : IntKind.u64.wrap ((now : Int) + zz) = (to' : Int) := by rw [IntKind.wrap_u64]; omega
            have htb : to' ≤ 18446744073709551615 := by omega
            clear hR1 hdd hzz hto
            obtain ⟨nw, hnw⟩ : ∃ x, max now to' = x := ⟨_, rfl⟩
            have q5 : (if now < to' then (to' : Int) else (now : Int)) = (nw : Int) := by rw [← hnw]; split <;> omega
            have q5' : max (now : Int) (to' : Int) = (nw : Int) := by rw [← hnw]; omega
            have HNW := Lib.hid hnw
            clear hnw
            go_wp2_with fail
            refine (ws_rdue (nw := nw) HA.out (by omega)).mono ?_
            rintro e w4 ⟨ov, lv, rfl, hwd⟩
            have HWD := Lib.hid hwd
            have hT4 : Upd Nowhere w w4 := by obtain ⟨_, _, _, _, _, _, _, h9⟩ := hwd; exact h9
            have HDU := Lib.hid (ws_wdue hwd (HT w4 hT4).out hG htb HNW.out)
            clear hwd hT4 j0 j1 j2 y0 y1 y2
            go_wp2_with fail
            refine HDU.out.mono ?_
            rintro e w5 ⟨v, rfl, hr1, hr2, hws5⟩
            obtain ⟨L, hL⟩ : ∃ x, nums (dueOf nw s) = x := ⟨_, rfl⟩
            have hLl : L.length ≤ 1000000 := by rw [← hL]; unfold nums; rw [List.length_map]; have h9 := due_left nw s; have h8 := HML.out; omega
            rw [hL] at hr1 hr2
            have HSM := Lib.hid (Ref06.same_any w5 v ov L L hr1 hr2 hLl hLl)
            have e9 : decide (L = L) = true := by simp
            rw [e9] at HSM
            have HW5 := Lib.hid hws5
            clear hr1 hr2 hws5 hL e9 HDU
            go_wp2_with fail
            refine HSM.out.mono ?_
            rintro e w6 ⟨rfl, nq, rfl⟩
            have HW6 := Lib.hid (HW5.out.old ((Upd.refl Nowhere w5).drewN nq))
            clear HSM
            go_wp2_with fail
            go_meet
            exact ⟨nw, _, rfl, HW6.out⟩
      case rest =>
        obtain ⟨nw, s', rfl, hws⟩ := hcut
        obtain ⟨wC, rfl⟩ : ∃ x, x = wc := ⟨_, rfl⟩
        have hws0 := hws
        obtain ⟨came2, a1, a2, a3, hhw, hrow, hu, _⟩ := hws0
        obtain ⟨mad2, mca2, rfl⟩ := hrow.form
        obtain ⟨N, hN⟩ : ∃ N, (itms s').length = N := ⟨_, rfl⟩
        have hsN : s'.length = N := by rw [← hN, itms_len]
        have hrow2 : PRow TR w.heap.size wC (.slice mad2 N mca2) (itms s') := by rw [← hN]; exact hrow
        have hws2 : Ws NoB w wC b room (.slice mad2 N mca2) nw (k + 1) s' := by rw [← hN]; exact hws
        have hhw2 : HasW (fun q => NoB q ∨ (Value.slice mad2 N mca2).ownBlock = some q) w wC b nw came2 room s' := by rw [← hN]; exact hhw
        have HWS := Lib.hid hws2
        have HLN := Lib.hid hsN
        have n1 : ((nw : Int) != nw) = false := by simp
        have n2 : ((N : Int) != N) = false := by simp
        have hTC := (HT wC hu).out
        rw [hN]
        clear hws hhw hrow hws2 hsN hu HA HBL eK hr4
        cases s' with
        | nil =>
          have HF := fun u (hu : Upd Nowhere wC u) => Lib.hid (Ref09.first_nil (show PRow TR w.heap.size u (.slice mad2 N mca2) [] from ownsRow_upd hrow2 hu (fun _ _ h => h)))
          have HNX := Lib.hid (next_none hhw2)
          have HHW := Lib.hid hhw2
          clear hrow2 hhw2 hTC hN
          go_wp2_with fail
          refine (HNX.out).mono ?_
          rintro e w2 ⟨rfl, rfl⟩
          go_wp2_with fail
          refine ((HF _ (Upd.refl _ _)).out).mono ?_
          rintro e w3 ⟨rfl, hu3⟩
          have HH9 := Lib.hid (HHW.out.old hu3)
          have HU9 := Lib.hid hu3
          clear hu3 HF HNX
          have HW9 := Lib.hid (HWS.out.old HU9.out)
          go_wp2_with fail
          refine (hasW_now HH9.out).mono ?_
          rintro e w7 ⟨rfl, rfl⟩
          go_wp2_with fail
          refine (hasW_len HH9.out).mono ?_
          rintro e w7 ⟨rfl, rfl⟩
          rw [HLN.out]
          go_wp2_with fail
          go_roundw
          case rel => exact ⟨k + 1, nw, _, by omega, by go_num, rfl, HW9.out⟩
          case measure => simp [intOf]; omega
        | cons a t =>
          have HF := fun u (hu : Upd Nowhere wC u) => Lib.hid (Ref09.first_some (show PRow TR w.heap.size u (.slice mad2 N mca2) (itm a :: itms t) from ownsRow_upd hrow2 hu (fun _ _ h => h)))
          have HNX := Lib.hid (next_some hhw2 hTC)
          have HHW := Lib.hid hhw2
          clear hrow2 hhw2 hTC hN
          obtain ⟨a0, a1', a2'⟩ := a
          have n3 : ((a0 : Int) != a0) = false := by simp
          have HF2 : ∀ u, Upd Nowhere wC u → Hid (Calls Tryd.prog 29 #[.slice mad2 N mca2] u fun e w' => e = .returned (.tuple #[.int .u64 a0, .int .i64 a2', .bool true]) ∧ Upd Nowhere u w') := HF
          clear HF
          go_wp2_with fail
          refine (HNX.out).mono ?_
          rintro e w2 ⟨rfl, hu2⟩
          go_wp2_with fail
          refine ((HF2 _ hu2).out).mono ?_
          rintro e w3 ⟨rfl, hu3⟩
          have HU9 := Lib.hid (hu2.trans hu3 (fun _ _ h => h))
          have HH9 := Lib.hid (HHW.out.old HU9.out)
          clear hu2 hu3 HF2 HNX
          have HW9 := Lib.hid (HWS.out.old HU9.out)
          go_wp2_with fail
          refine (hasW_now HH9.out).mono ?_
          rintro e w7 ⟨rfl, rfl⟩
          go_wp2_with fail
          refine (hasW_len HH9.out).mono ?_
          rintro e w7 ⟨rfl, rfl⟩
          rw [HLN.out]
          go_wp2_with fail
          go_roundw
          case rel => exact ⟨k + 1, nw, _, by omega, by go_num, rfl, HW9.out⟩
          case measure => simp [intOf]; omega
    · have hI : ¬ (k : Int) < n := by omega
      clear hhw hrow hu
      go_wp2_with fail
      refine ((HL _ HU.out).out).mono ?_
      rintro e w9 ⟨rfl, u9⟩
      go_wp2_with fail
      go_ret
      exact ⟨rfl, HU.out.trans u9 (fun _ _ h => h)⟩
theorem plays_big (room : Nat) (h1 : 1 ≤ room) (h2 : room ≤ 4096) (ad : Option Addr) (ca n : Nat) (hl : 200 < n) (w : World) (hT : Tab w) (hG : Tryd.tz64_ren.g 1 < w.heap.size) :
    Calls Tryd.prog 6 #[.int .i64 room, .slice ad n ca] w fun e w' => e = .returned (.bool true) ∧ Upd Nowhere w w' := by
  have t0 : decide ((n : Int) > 200) = true := decide_eq_true (by omega)
  have t1 : decide (200 < (n : Int)) = true := decide_eq_true (by omega)
  have t2 : decide (200 < n) = true := decide_eq_true hl
  have HL := fun u (hu : Upd Nowhere w u) => Lib.hid (lives u (hT.old hu id) (Nat.lt_of_lt_of_le hG hu.size))
  have Hnew := Lib.hid (hasW_new room h1 h2 w)
  have Hmay := fun u => Lib.hid (Ref09.may_any (room : Int) u)
  have hmay : Ref09.mayB (room : Int) = true := by unfold Ref09.mayB; simp; omega
  rw [hmay] at Hmay
  clear hl h1 h2 hmay hT
  go_enter Tryd.func6, Tryd.ntmps6
  go_wp2_with fail
  refine (Hnew.out).mono ?_
  rintro e w1 ⟨rfl, -, u1⟩
  go_wp2_with fail
  refine ((Hmay _).out).mono ?_
  rintro e w2 ⟨rfl, rfl⟩
  go_wp2_with fail
  refine ((HL _ u1).out).mono ?_
  rintro e w3 ⟨rfl, u3⟩
  go_wp2_with fail
  go_ret
  exact ⟨rfl, u1.trans u3 (fun _ _ h => h)⟩
theorem plays_no (room : Int) (h : room < 1 ∨ 4096 < room) (ad : Option Addr) (ca n : Nat) (w : World) (hT : Tab w) (hG : Tryd.tz64_ren.g 1 < w.heap.size) :
    Calls Tryd.prog 6 #[.int .i64 room, .slice ad n ca] w fun e w' => e = .returned (.bool true) ∧ Upd Nowhere w w' := by
  have HL := Lib.hid (lives w hT hG)
  have Hnew := Lib.hid (new_bad room h w)
  have Hmay := fun u => Lib.hid (Ref09.may_any room u)
  have hmay : Ref09.mayB room = false := by unfold Ref09.mayB; simp; omega
  rw [hmay] at Hmay
  clear h hmay hT
  go_enter Tryd.func6, Tryd.ntmps6
  go_wp2_with fail
  refine (Hnew.out).mono ?_
  rintro e w1 ⟨rfl, rfl⟩
  go_wp2_with fail
  refine ((Hmay _).out).mono ?_
  rintro e w2 ⟨rfl, rfl⟩
  go_wp2_with fail
  refine (HL.out).mono ?_
  rintro e w3 ⟨rfl, u3⟩
  go_wp2_with fail
  go_ret
  exact ⟨rfl, u3⟩
theorem plays_law (room : Int) (v : Value) (l : List (Nat × Nat × Int)) (hb : ∀ a ∈ l, a.1 ≤ 255 ∧ a.2.1 ≤ 18446744073709551615) (w : World) (hv : RowsAt w v l.length (l.flatMap act)) (hT : Tab w) (hG : Tryd.tz64_ren.g 1 < w.heap.size) :
    Calls Tryd.prog 6 #[.int .i64 room, v] w fun e w' => e = .returned (.bool true) ∧ Upd Nowhere w w' := by
  obtain ⟨ad, ca, rfl, h0, _, hca, hc⟩ := hv
  by_cases h : room < 1 ∨ 4096 < room
  · exact plays_no room h ad ca _ w hT hG
  · obtain ⟨r, rfl⟩ : ∃ r : Nat, room = r := ⟨room.toNat, by omega⟩
    rcases Nat.lt_or_ge 200 l.length with hbig | hsm
    · exact plays_big r (by omega) (by omega) ad ca _ hbig w hT hG
    · exact plays_ok r (by omega) (by omega) ad ca l hsm (fun i a h => hb a (List.mem_of_getElem? h)) w (fun h => (h0 h).1) hc hT hG
end Go.Proofs.YtjbaibnmbeabnaaDoor.Wheel
