/- wheel's law: time in steps. -/
import Derived.Test.YtjbaibnmbeabnaaDoorWheelPair
namespace Go.Proofs.YtjbaibnmbeabnaaDoor.Wheel
open Go.RowKit Go.Proofs BigFrame Heap
set_option maxHeartbeats 4000000
set_option maxRecDepth 1000000
section
variable {X : Nat → Prop} {w0 w : World} {a na ca b nb cb room : Nat} {sa sb : List En}
theorem pair_due (h : Pair X w0 w a na ca sa b nb cb sb room) (hX : ∀ k, X k → k < w.heap.size) (hT : Tab w) (hG : Tryd.tz64_ren.g 1 < w0.heap.size) (m : Nat) (hm : m ≤ 18446744073709551615) :
    Calls Tryd.prog 22 #[.pointer (some ⟨a, 0, none⟩), .int .u64 m] w fun e w' => ∃ v, e = .returned v ∧ RowAt w' v (outs (dueOf (max na m) sa)) ∧ Pair X w0 w' a (max na m) ca (leftOf (max na m) sa) b nb cb sb room ∧ Upd (Free X w0) w w' := by
  obtain ⟨A, h1, h2, h3, h4⟩ := h.op hX
  refine (due_any h1 h2 hT hG m hm).mono ?_
  rintro e w' ⟨v, rfl, h5, h6, h7⟩
  exact ⟨v, rfl, ownsRow_rowAt h5, h4 w' _ _ _ h6 h7, h7.mono (fun k _ hk => ⟨hk.1, fun h9 => hk.2 (h3 k h9)⟩)⟩
theorem pair_add (h : Pair X w0 w a na ca sa b nb cb sb room) (hX : ∀ k, X k → k < w.heap.size) (hl : sa.length < room) (t : Nat) (ht : t ≤ 18446744073709551615) (x : Int) (hc : ca < 18446744073709551615) :
    Calls Tryd.prog 21 #[.pointer (some ⟨a, 0, none⟩), .int .u64 t, .int .i64 x] w fun e w' => e = .returned (.bool true) ∧ Pair X w0 w' a na (ca + 1) (insE (t, ca, x) sa) b nb cb sb room ∧ Upd (Free X w0) w w' := by
  obtain ⟨A, h1, h2, h3, h4⟩ := h.op hX
  refine (add_room h1 hl h2 t ht x hc).mono ?_
  rintro e w' ⟨rfl, h6, h7⟩
  exact ⟨rfl, h4 w' _ _ _ h6 h7, h7.mono (fun k _ hk => ⟨hk.1, fun h9 => hk.2 (h3 k h9)⟩)⟩
end
theorem outs_app (l m : List En) : outs (l ++ m) = outs l ++ outs m := by unfold outs; rw [List.map_append]
theorem outs_len (l : List En) : (outs l).length = l.length := by simp [outs]
theorem outs_one (l : List En) : ∀ u ∈ outs l, u.oneCell' = true := fun u hu => by
  obtain ⟨e, _, rfl⟩ := List.mem_map.1 hu; rfl
/-- What loop 2 keeps. -/
def Sp (w wr : World) (a b en N : Nat) (s0 : List En) (gv nv : Value) : Prop := ∃ (nw na : Nat) (sa G : List En), nv = .int .u64 nw ∧ nw ≤ en ∧ na ≤ en ∧ wr.ownsRow w.heap.size TI 1 gv G.length (outs G) ∧ G ++ dueOf en sa = dueOf en s0 ∧ leftOf en sa = leftOf en s0 ∧ Pair (fun k => gv.ownBlock = some k) w wr a na N sa b 0 N s0 4096 ∧ Upd Nowhere w wr
theorem steps_walk (ad : Option Addr) (ca : Nat) (times : List Nat) (h1 : times.length ≤ 200) (hb1 : ∀ x ∈ times, x ≤ 18446744073709551615) (ad2 : Option Addr) (ca2 : Nat) (steps : List Nat) (h2 : steps.length ≤ 200) (en : Nat) (hen : en ≤ 18446744073709551615) (w : World)
    (h0 : ad = none → times = []) (hc : ∀ g, ad = some g → ∀ (j x : Nat), times[j]? = some x → g.spot = none ∧ w.cell? ⟨g.block, g.off + j, none⟩ = some (.int .u64 (x : Nat)))
    (h02 : ad2 = none → steps = []) (hc2 : ∀ g, ad2 = some g → ∀ (j x : Nat), steps[j]? = some x → g.spot = none ∧ w.cell? ⟨g.block, g.off + j, none⟩ = some (.int .u64 (x : Nat))) (hT : Tab w) (hG : Tryd.tz64_ren.g 1 < w.heap.size) :
    Calls Tryd.prog 5 #[.slice ad times.length ca, .slice ad2 steps.length ca2, .int .u64 en] w fun e w' => e = .returned (.bool true) ∧ Upd Nowhere w w' := by
  obtain ⟨i0, hi, hz0, hz1, hz2⟩ := info_parts infoI
  obtain ⟨N, hN⟩ : ∃ m, times.length = m := ⟨_, rfl⟩
  obtain ⟨M, hM⟩ : ∃ m, steps.length = m := ⟨_, rfl⟩
  rw [hN] at h1 ⊢
  rw [hM] at h2 ⊢
  have t1 : decide ((N : Int) > 200) = false := decide_eq_false (by omega)
  have t2 : decide (200 < N) = false := decide_eq_false (by omega)
  have t3 : decide ((M : Int) > 200) = false := decide_eq_false (by omega)
  have t4 : decide (200 < M) = false := decide_eq_false (by omega)
  have HN := Lib.hid hN
  have HM := Lib.hid hM
  have H0 := Lib.hid h0
  have HC := Lib.hid hc
  have H02 := Lib.hid h02
  have HC2 := Lib.hid hc2
  have HB1 := Lib.hid hb1
  have HT := fun u (hu : Upd Nowhere w u) => Lib.hid (hT.old hu id)
  have HL := fun u (hu : Upd Nowhere w u) => Lib.hid (lives u (hT.old hu id) (Nat.lt_of_lt_of_le hG hu.size))
  clear hN hM h0 hc h02 hc2 hb1 hT
  go_enter Tryd.func5, Tryd.ntmps5
  go_wp2_with fail
  refine (hasW_new 4096 (by omega) (by omega) w).mono ?_
  rintro e w1 ⟨rfl, hw1, u1⟩
  go_wp2_with fail
  refine (hasW_new 4096 (by omega) (by omega) w1).mono ?_
  rintro e w2 ⟨rfl, hw2, u2⟩
  have HP := Lib.hid (pair_new hw1 hw2 u2)
  have HU := Lib.hid (u1.trans u2 (fun _ _ h => h))
  obtain ⟨a, ha⟩ : ∃ a, w.heap.size = a := ⟨_, rfl⟩
  obtain ⟨b, hb⟩ : ∃ b, w1.heap.size = b := ⟨_, rfl⟩
  clear hw1 hw2 u1 u2
  go_wp2_with fail
  rw [ha, hb] at HP
  try simp only [ha, hb]
  go_loopw [42] (fun i wr => ∃ (k : Nat) (s : List En), k ≤ N ∧ i = .int .i64 k ∧ s.length = k ∧ Pair NoB w wr a 0 k s b 0 k s 4096 ∧ Upd Nowhere w wr) (fun i _ => N - (intOf i).toNat)
  case atStart => exact ⟨0, [], by omega, rfl, rfl, HP.out, HU.out⟩
  case round =>
    clear HP HU
    obtain ⟨k, s, hk, rfl, hs, hp, hu⟩ := hrel
    obtain ⟨wB, rfl⟩ : ∃ x, x = wr := ⟨_, rfl⟩
    have HU := Lib.hid hu
    have HP := Lib.hid hp
    by_cases hlt : k < N
    · have hI : (k : Int) < N := by omega
      obtain ⟨x, hx⟩ : ∃ x, times[k]? = some x := ⟨times[k]'(by rw [HN.out]; exact hlt), by simp⟩
      have hxb := HB1.out x (List.mem_of_getElem? hx)
      obtain ⟨ga, oa, rfl, hcx⟩ : ∃ g o, ad = some ⟨g, o, none⟩ ∧ w.cell? ⟨g, o + k, none⟩ = some (.int .u64 (x : Nat)) := by
        cases ad with
        | none => rw [H0.out rfl] at hx; cases hx
        | some g =>
          obtain ⟨hs, hcc⟩ := HC.out g rfl k x hx
          obtain ⟨g, o, sp⟩ := g
          simp only at hs
          subst hs
          exact ⟨g, o, rfl, hcc⟩
      have hcx2 := cell_old hu hcx
      have hins : (insE (x, k, (k : Int)) s).length = k + 1 := by rw [(insE_perm _ _).length_eq, List.length_cons, hs]
      have HINS := Lib.hid hins
      have HS := Lib.hid hs
      clear hx hcx hu hp hs hins
      go_wp2_with fail
      refine (pair_add HP.out (fun _ h => h.elim) (by rw [HS.out]; omega) x hxb (k : Int) (by omega)).mono ?_
      rintro e w3 ⟨rfl, hp3, hu3⟩
      have HP3 := Lib.hid hp3
      have HU3 := Lib.hid (nowhere_step HU.out hu3)
      clear hp3 hu3
      go_wp2_with fail
      refine (pair_add HP3.out.swap (fun _ h => h.elim) (by rw [HS.out]; omega) x hxb (k : Int) (by omega)).mono ?_
      rintro e w4 ⟨rfl, hp4, hu4⟩
      have HP4 := Lib.hid hp4.swap
      have HU4 := Lib.hid (nowhere_step HU3.out hu4)
      clear hp4 hu4
      go_wp2_with fail
      go_roundw
      case rel => exact ⟨k + 1, _, by omega, by go_num, HINS.out, HP4.out, HU4.out⟩
      case measure => simp [intOf]; omega
    · have hI : ¬ (k : Int) < N := by omega
      obtain rfl : k = N := by omega
      have HS0 : Hid (Sp w wB a b en k s (.slice none 0 0) (.int .u64 0)) := Lib.hid ⟨0, 0, s, [], rfl, Nat.zero_le _, Nat.zero_le _, ownsRow_nil _ _ _ _, rfl, rfl, hp.kept (Upd.refl Nowhere _) (fun _ _ h => h.elim) (fun q hq => by simp [Value.ownBlock] at hq), hu⟩
      have hord := hp.fst.old_all.2.1
      have hlen4 := hp.fst.fits.1
      have HORD := Lib.hid hord
      clear hu hp hs hord
      go_wp2_with fail
      go_loopw [13, 14, 62] (fun gv nv i wr => ∃ (j : Nat), j ≤ M ∧ i = .int .i64 j ∧ Sp w wr a b en k s gv nv) (fun _ _ i _ => M - (intOf i).toNat)
      case atStart => exact ⟨0, by omega, rfl, HS0.out⟩
      case round =>
        clear HS0 HP HU
        obtain ⟨j, hj, rfl, nw, na, sa, G, rfl, hnw, hna, hown, hd, hl, hp, hu⟩ := hrel
        obtain ⟨wC, rfl⟩ : ∃ x, x = wr := ⟨_, rfl⟩
        have hsd := hp.fst.old_all.2.1
        have hsl := hp.fst.fits.1
        have hGl : G.length ≤ 4096 := by
          have h9 := congrArg List.length hd
          rw [List.length_append] at h9
          have h8 := due_left en s
          omega
        have HSD := Lib.hid hsd
        have HO := Lib.hid hown
        have HD := Lib.hid hd
        have HLf := Lib.hid hl
        have HP := Lib.hid hp
        have HU := Lib.hid hu
        have HX : Hid (∀ q, u13.ownBlock = some q → q < wC.heap.size) := Lib.hid (fun q hq => (hown.lt q hq).2)
        have hsw := hu.size
        clear hown hd hl hp hsd
        by_cases hlt2 : j < M
        · have hI2 : (j : Int) < M := by omega
          obtain ⟨y, hy⟩ : ∃ x, steps[j]? = some x := ⟨steps[j]'(by rw [HM.out]; exact hlt2), by simp⟩
          obtain ⟨gb, ob, rfl, hcy⟩ : ∃ g o, ad2 = some ⟨g, o, none⟩ ∧ w.cell? ⟨g, o + j, none⟩ = some (.int .u64 (y : Nat)) := by
            cases ad2 with
            | none => rw [H02.out rfl] at hy; cases hy
            | some g =>
              obtain ⟨hs, hcc⟩ := HC2.out g rfl j y hy
              obtain ⟨g, o, sp⟩ := g
              simp only at hs
              subst hs
              exact ⟨g, o, rfl, hcc⟩
          have hcy2 := cell_old hu hcy
          obtain ⟨m1, hm1⟩ : ∃ x, min y en = x := ⟨_, rfl⟩
          obtain ⟨m2, hm2⟩ : ∃ x, max nw m1 = x := ⟨_, rfl⟩
          have e1a : (if en < y then (en : Int) else (y : Int)) = (m1 : Int) := by rw [← hm1]; split <;> omega
          have e1b : min (y : Int) (en : Int) = (m1 : Int) := by rw [← hm1]; omega
          have e2a : (if nw < m1 then (m1 : Int) else (nw : Int)) = (m2 : Int) := by rw [← hm2]; split <;> omega
          have e2b : max (nw : Int) (m1 : Int) = (m2 : Int) := by rw [← hm2]; omega
          have hm2e : m2 ≤ en := by omega
          have HDU := Lib.hid (pair_due HP.out HX.out (HT wC hu).out hG m2 (by omega))
          obtain ⟨m3, hm3⟩ : ∃ x, max na m2 = x := ⟨_, rfl⟩
          have hm3e : m3 ≤ en := by omega
          rw [hm3] at HDU
          obtain ⟨dl, hdl⟩ : ∃ x, (outs (dueOf m3 sa)).length = x := ⟨_, rfl⟩
          have hdl9 : dl ≤ 4096 := by have h9 := due_left m3 sa; rw [outs_len] at hdl; omega
          have hDL := Lib.hid hdl
          clear hy hcy hm1 hm2 hm3 hu hdl
          go_wp2_with fail
          refine HDU.out.mono ?_
          rintro e w3 ⟨v, rfl, hr3, hp3, hu3⟩
          have hgv : w3.ownsRow w.heap.size TI 1 u13 G.length (outs G) := ownsRow_upd HO.out hu3 (fun q hq h9 => h9.2 hq)
          have HO3 := Lib.hid hgv
          have HR3 := Lib.hid hr3
          have HP3 := Lib.hid hp3
          have HU3 := Lib.hid (nowhere_step HU.out hu3)
          have hs3 : w.heap.size ≤ w3.heap.size := HU3.out.size
          clear hgv hr3 hp3 hu3 HDU
          go_wp2_with (at_builtin; go_loud (refine wpList_appRow rfl _ _ 46 rfl w.heap.size TI i0 (.int .i64 0) 8 Tryd.underlying46 hi hz0 hz1 hz2 rfl (by decide) u13 G.length (outs G) rfl HO3.out v (outs (dueOf m3 sa)) rfl HR3.out (outs_one _) (by rw [hDL.out]; omega) hs3 ?_; intro v4 w4 hown4 hu4 hn4; have HO4 : Hid (w4.ownsRow w.heap.size TI 1 v4 (G ++ dueOf m3 sa).length (outs (G ++ dueOf m3 sa))) := Lib.hid (by rw [outs_app, List.length_append]; have h9 := hown4; rw [outs_len] at h9; exact h9); have HP4 := Lib.hid (HP3.out.kept (X' := fun q => v4.ownBlock = some q) hu4 (fun q _ hq => hq) hn4); have HU4 := Lib.hid (HU3.out.trans hu4 (fun q hq h9 => absurd (HO3.out.lt q h9).1 (Nat.not_le.2 hq))); clear hown4 hu4 hn4))
          obtain ⟨d1, d2⟩ := due_split (n := m3) (m := en) hm3e HSD.out
          have HD4 : Hid ((G ++ dueOf m3 sa) ++ dueOf en (leftOf m3 sa) = dueOf en s) := Lib.hid (by rw [List.append_assoc, d1]; exact HD.out)
          have HL4 : Hid (leftOf en (leftOf m3 sa) = leftOf en s) := Lib.hid (d2.trans HLf.out)
          clear d1 d2
          go_wp2_with fail
          go_roundw
          case rel => exact ⟨j + 1, by omega, by go_num, m2, m3, leftOf m3 sa, G ++ dueOf m3 sa, rfl, hm2e, hm3e, HO4.out, HD4.out, HL4.out, HP4.out, HU4.out⟩
          case measure => simp [intOf]; omega
        · have hI2 : ¬ (j : Int) < M := by omega
          obtain rfl : j = M := by omega
          have HDU := Lib.hid (pair_due HP.out HX.out (HT wC hu).out hG en hen)
          have em : max na en = en := by omega
          rw [em] at HDU
          obtain ⟨dl, hdl⟩ : ∃ x, (outs (dueOf en sa)).length = x := ⟨_, rfl⟩
          have hdl9 : dl ≤ 4096 := by have h9 := due_left en sa; rw [outs_len] at hdl; omega
          have hDL := Lib.hid hdl
          clear hdl hu em
          go_wp2_with fail
          refine HDU.out.mono ?_
          rintro e w3 ⟨v, rfl, hr3, hp3, hu3⟩
          have hgv : w3.ownsRow w.heap.size TI 1 u13 G.length (outs G) := ownsRow_upd HO.out hu3 (fun q hq h9 => h9.2 hq)
          have HO3 := Lib.hid hgv
          have HR3 := Lib.hid hr3
          have HP3 := Lib.hid hp3
          have HU3 := Lib.hid (nowhere_step HU.out hu3)
          have hs3 : w.heap.size ≤ w3.heap.size := HU3.out.size
          clear hgv hr3 hp3 hu3 HDU
          go_wp2_with (at_builtin; go_loud (refine wpList_appRow rfl _ _ 46 rfl w.heap.size TI i0 (.int .i64 0) 8 Tryd.underlying46 hi hz0 hz1 hz2 rfl (by decide) u13 G.length (outs G) rfl HO3.out v (outs (dueOf en sa)) rfl HR3.out (outs_one _) (by rw [hDL.out]; omega) hs3 ?_; intro v4 w4 hown4 hu4 hn4; have HO4 : Hid (w4.ownsRow w.heap.size TI 1 v4 (dueOf en s).length (outs (dueOf en s))) := Lib.hid (by rw [← HD.out, outs_app, List.length_append]; have h9 := hown4; rw [outs_len] at h9; exact h9); have HP4 := Lib.hid (HP3.out.kept (X' := fun q => v4.ownBlock = some q) hu4 (fun q _ hq => hq) hn4); have HU4 := Lib.hid (HU3.out.trans hu4 (fun q hq h9 => absurd (HO3.out.lt q h9).1 (Nat.not_le.2 hq))); clear hown4 hu4 hn4))
          have HDB := Lib.hid (pair_due HP4.out.swap (fun q hq => (HO4.out.lt q hq).2) (HT w4 HU4.out).out hG en hen)
          have em : max 0 en = en := by omega
          rw [em] at HDB
          rw [HLf.out] at HDB
          obtain ⟨Z, hZ⟩ : ∃ x, leftOf en s = x := ⟨_, rfl⟩
          obtain ⟨L, hL⟩ : ∃ x, (dueOf en s).map (fun e => e.2.2) = x := ⟨_, rfl⟩
          have hLl : L.length ≤ 1000000 := by rw [← hL, List.length_map]; have h9 := due_left en s; omega
          have hou : outs (dueOf en s) = Ref06.ints L := by rw [← hL]; exact outs_ints _
          have HOU := Lib.hid hou
          rw [hZ] at HDB
          clear em hZ hL hou
          go_wp2_with fail
          refine HDB.out.mono ?_
          rintro e w5 ⟨v5, rfl, hr5, hp5, hu5⟩
          have HR4 : Hid (RowAt w5 v4 (Ref06.ints L)) := Lib.hid (by rw [← HOU.out]; exact ownsRow_rowAt (ownsRow_upd HO4.out hu5 (fun q hq h9 => h9.2 hq)))
          have HR5 : Hid (RowAt w5 v5 (Ref06.ints L)) := Lib.hid (by rw [← HOU.out]; exact hr5)
          have HSM := Lib.hid (Ref06.same_any w5 v4 v5 L L HR4.out HR5.out hLl hLl)
          have e9 : decide (L = L) = true := by simp
          rw [e9] at HSM
          have HP5 := Lib.hid hp5
          have HU5 := Lib.hid (nowhere_step HU4.out hu5)
          clear hr5 hp5 hu5 HDB e9
          go_wp2_with fail
          refine HSM.out.mono ?_
          rintro e w6 ⟨rfl, nq, rfl⟩
          have HP6 := Lib.hid (HP5.out.old ((Upd.refl Nowhere w5).drewN nq))
          have HU6 := Lib.hid (HU5.out.drewN nq)
          clear HSM
          generalize w5.drewN nq = w6 at *
          go_wp2_with fail
          refine (hasW_len HP6.out.snd).mono ?_
          rintro e w7 ⟨rfl, rfl⟩
          go_wp2_with fail
          refine (hasW_len HP6.out.fst).mono ?_
          rintro e w7 ⟨rfl, rfl⟩
          go_wp2_with fail
          refine ((HL _ HU6.out).out).mono ?_
          rintro e w8 ⟨rfl, u8⟩
          go_wp2_with fail
          go_ret
          exact ⟨rfl, HU6.out.trans u8 (fun _ _ h => h)⟩
theorem steps_big (ad : Option Addr) (n ca : Nat) (ad2 : Option Addr) (n2 ca2 en : Nat) (w : World) (h : 200 < n ∨ 200 < n2) (hT : Tab w) (hG : Tryd.tz64_ren.g 1 < w.heap.size) :
    Calls Tryd.prog 5 #[.slice ad n ca, .slice ad2 n2 ca2, .int .u64 en] w fun e w' => e = .returned (.bool true) ∧ Upd Nowhere w w' := by
  have HL := Lib.hid (lives w hT hG)
  clear hT
  by_cases h1 : 200 < n
  · have t1 : decide ((n : Int) > 200) = true := decide_eq_true (by omega)
    have t2 : decide (200 < n) = true := decide_eq_true h1
    clear h
    go_enter Tryd.func5, Tryd.ntmps5
    go_wp2_with fail
    refine (HL.out).mono ?_
    rintro e w1 ⟨rfl, u1⟩
    go_wp2_with fail
    go_ret
    exact ⟨rfl, u1⟩
  · have t1 : decide ((n : Int) > 200) = false := decide_eq_false (by omega)
    have t2 : decide (200 < n) = false := decide_eq_false h1
    have t3 : decide ((n2 : Int) > 200) = true := decide_eq_true (by omega)
    have t4 : decide (200 < n2) = true := decide_eq_true (by omega)
    clear h
    go_enter Tryd.func5, Tryd.ntmps5
    go_wp2_with fail
    refine (HL.out).mono ?_
    rintro e w1 ⟨rfl, u1⟩
    go_wp2_with fail
    go_ret
    exact ⟨rfl, u1⟩
/-- A row of words, as the walk wants it. -/
theorem row64 {v : Value} {l : List Int} {w : World} (hr : RowAt w v (l.map (.int .u64))) (hw : ∀ n ∈ l, (Lit.int .u64 n).wf = true) : (∃ ad c, v = .slice ad (l.map Int.toNat).length c ∧ (ad = none → l.map Int.toNat = []) ∧ ∀ g, ad = some g → ∀ (j x : Nat), (l.map Int.toNat)[j]? = some x → g.spot = none ∧ w.cell? ⟨g.block, g.off + j, none⟩ = some (.int .u64 (x : Nat))) ∧ ∀ x ∈ l.map Int.toNat, x ≤ 18446744073709551615 := by
  have hb : ∀ x ∈ l, 0 ≤ x ∧ x ≤ 18446744073709551615 := fun x hx => by have := bd64 (hw x hx); omega
  obtain ⟨ad, c, rfl, h0, h1⟩ := hr
  refine ⟨⟨ad, c, by rw [List.length_map, List.length_map], fun hn => by have h9 := (h0 hn).1; rw [List.map_eq_nil_iff] at h9; rw [h9]; rfl, fun g hg j x hx => ?_⟩, fun x hx => by obtain ⟨y, hy, rfl⟩ := List.mem_map.1 hx; have := hb y hy; omega⟩
  rw [List.getElem?_map] at hx
  cases hy : l[j]? with
  | none => rw [hy] at hx; cases hx
  | some y =>
    rw [hy] at hx
    have e9 : y.toNat = x := Option.some.inj hx
    have hy2 := hb y (List.mem_of_getElem? hy)
    have h9 := h1 g hg j (.int .u64 y) (by rw [List.getElem?_map, hy]; rfl)
    rw [← e9, Int.toNat_of_nonneg hy2.1]
    exact h9
theorem steps_law (v : Value) (l : List Int) (v2 : Value) (l2 : List Int) (en : Nat) (hen : en ≤ 18446744073709551615) (w : World) (hr : RowAt w v (l.map (.int .u64))) (hw : ∀ n ∈ l, (Lit.int .u64 n).wf = true) (hr2 : RowAt w v2 (l2.map (.int .u64))) (hw2 : ∀ n ∈ l2, (Lit.int .u64 n).wf = true) (hT : Tab w) (hG : Tryd.tz64_ren.g 1 < w.heap.size) :
    Calls Tryd.prog 5 #[v, v2, .int .u64 en] w fun e w' => e = .returned (.bool true) ∧ Upd Nowhere w w' := by
  obtain ⟨⟨ad, ca, rfl, h0, hc⟩, hl⟩ := row64 hr hw
  obtain ⟨⟨ad2, ca2, rfl, h02, hc2⟩, hl2⟩ := row64 hr2 hw2
  by_cases hbig : 200 < (l.map Int.toNat).length ∨ 200 < (l2.map Int.toNat).length
  · exact steps_big ad _ ca ad2 _ ca2 en w hbig hT hG
  · exact steps_walk ad ca (l.map Int.toNat) (by omega) hl ad2 ca2 (l2.map Int.toNat) (by omega) en hen w h0 hc h02 hc2 hT hG
end Go.Proofs.YtjbaibnmbeabnaaDoor.Wheel
