/- DrrOrder: the walk. -/
import Derived.Test.YtopibbaopglggaaDrrOrder
namespace Go.Proofs.Ytopibbaopglggaa.Drr
open Go.RowKit Go.Proofs BigFrame
set_option maxHeartbeats 16000000
set_option maxRecDepth 1000000
abbrev TU : TypeId := 28
abbrev TA : TypeId := 71
theorem infoU : (Try.prog.info? TU).map (fun i => (i.zero, i.size, i.bytes)) = some (some (.int .u64 0), 1, 8) := by kernel_rfl
theorem order_walk (ad : Option Addr) (ca : Nat) (l : List Nat) (h1 : 1 ≤ l.length) (h2 : l.length ≤ 20) (hl : ∀ x ∈ l, x ≤ 65535) (ad2 : Option Addr) (ca2 : Nat) (acts : List (Bool × Int × Nat)) (h3 : acts.length ≤ 300) (hb : ∀ a ∈ acts, a.2.2 ≤ 18446744073709551615) (w : World)
    (h0 : ad = none → l = []) (hc : ∀ g, ad = some g → ∀ (j x : Nat), l[j]? = some x → g.spot = none ∧ w.cell? ⟨g.block, g.off + j, none⟩ = some (.int .u16 (x : Nat)))
    (h02 : ad2 = none → acts = []) (hc2 : ∀ g, ad2 = some g → ∀ (j : Nat) (v : Value), (acts.flatMap actv)[j]? = some v → g.spot = none ∧ w.cell? ⟨g.block, g.off + j, none⟩ = some v) :
    Calls Try.prog 8 #[.slice ad l.length ca, .slice ad2 acts.length ca2] w fun e w' => e = .returned (.bool true) ∧ Upd Nowhere w w' := by
  obtain ⟨i0, hi, hz0, hz1, hz2⟩ := info_parts infoU
  obtain ⟨i1, gi, gz0, gz1, gz2⟩ := info_parts infoI
  have HL := fun u => Lib.hid (lives u)
  obtain ⟨m, hm⟩ : ∃ m, l.length = m := ⟨_, rfl⟩
  obtain ⟨N, hN⟩ : ∃ m, acts.length = m := ⟨_, rfl⟩
  rw [hm] at h1 h2 ⊢
  rw [hN] at h3 ⊢
  have t0 : ((m : Int) == 0) = false := by simp; omega
  have t1 : decide ((m : Int) > 20) = false := decide_eq_false (by omega)
  have t2 : decide (20 < m) = false := decide_eq_false (by omega)
  have t3 : decide ((N : Int) > 300) = false := decide_eq_false (by omega)
  have t4 : decide (300 < N) = false := decide_eq_false (by omega)
  have HM := Lib.hid hm
  have HN := Lib.hid hN
  have H0 := Lib.hid h0
  have HC := Lib.hid hc
  have H02 := Lib.hid h02
  have HC2 := Lib.hid hc2
  have HLB := Lib.hid hl
  have HAB := Lib.hid hb
  clear hm hN h0 hc h02 hc2 hl hb
  go_enter Try.func8, Try.ntmps8
  go_wp2_with fail
  go_loopw [5, 38] (fun qv c wr => ∃ (k : Nat) (adq : Option Addr) (cq : Nat), k ≤ m ∧ c = .int .i64 k ∧ qv = .slice adq k cq ∧ wr.ownsRow w.heap.size TU 1 qv k (nrow .u64 (quanta (l.take k))) ∧ Upd Nowhere w wr) (fun _ c _ => m - (intOf c).toNat)
  case atStart => exact ⟨0, none, 0, by omega, rfl, rfl, ownsRow_nil _ _ _ _, Upd.refl _ _⟩
  case round =>
    obtain ⟨k, adq, cq, hk, rfl, rfl, hown, hu⟩ := hrel
    have HO := Lib.hid hown
    have HU := Lib.hid hu
    obtain ⟨w2, rfl⟩ : ∃ x, x = wr := ⟨_, rfl⟩
    have hsz := hu.size
    clear hown hu
    by_cases hlt : k < m
    · have hI : (k : Int) < m := by omega
      obtain ⟨x, hx⟩ : ∃ x, l[k]? = some x := ⟨l[k]'(by rw [HM.out]; exact hlt), by simp⟩
      have hxb := HLB.out x (List.mem_of_getElem? hx)
      obtain ⟨ga, oa, rfl, hcx⟩ : ∃ g o, ad = some ⟨g, o, none⟩ ∧ w.cell? ⟨g, o + k, none⟩ = some (.int .u16 (x : Nat)) := by
        cases ad with
        | none => rw [H0.out rfl] at hx; cases hx
        | some g =>
          obtain ⟨hs, hcc⟩ := HC.out g rfl k x hx
          obtain ⟨g, o, sp⟩ := g
          simp only at hs
          subst hs
          exact ⟨g, o, rfl, hcc⟩
      have hcx2 := cell_old HU.out hcx
      obtain ⟨y, hy⟩ : ∃ y, x + 64 = y := ⟨_, rfl⟩
      have e1 : IntKind.u64.wrap (x : Int) = (x : Int) := by rw [IntKind.wrap_u64]; omega
      have e2 : IntKind.u64.wrap ((x : Int) + 64) = (y : Int) := by rw [IntKind.wrap_u64]; omega
      have HX := Lib.hid hx
      have HY := Lib.hid hy
      clear hx hy hcx
      go_wp2_with (at_builtin; refine wpList_push rfl _ _ 38 rfl w.heap.size TU i0 (.int .u64 0) 1 8 Try.underlying38 hi hz0 hz1 hz2 rfl (by decide) (by decide) _ _ _ rfl (HO.out.alloc _) w2.heap.size 1 [.int .u64 (y : Nat)] rfl rfl (new_cells _ #[_] _) (by simp [Value.oneCell']) (by omega) (by simp; omega) ?_; intro v4 w4 hown4 hu4 hn4; obtain ⟨ad4, c4, rfl⟩ : ∃ ad c, v4 = .slice ad (k + 1) c := by (rcases hown4.2 with ⟨rfl, h⟩ | ⟨g, cap, cur, rfl, _⟩); (exact absurd h (Nat.succ_ne_zero k)); (exact ⟨_, _, rfl⟩))
      go_roundw
      case rel =>
        refine ⟨k + 1, ad4, c4, by omega, by go_num, rfl, ?_, (HU.out.alloc _).trans hu4 (fun b hb hk => absurd (HO.out.lt b hk).1 (Nat.not_le.2 hb))⟩
        rw [quanta_take HX.out, HY.out]
        unfold nrow at hown4 ⊢
        rw [List.map_append]
        exact hown4
      case measure => simp [intOf]; omega
    · obtain rfl : m = k := by omega
      have hI : ¬ (m : Int) < m := by omega
      have hro : RowAt w2 (.slice adq m cq) (nrow .u64 (quanta l)) := by
        have h9 := ownsRow_rowAt HO.out
        rw [List.take_of_length_le (by rw [HM.out]; exact Nat.le_refl _)] at h9
        exact h9
      obtain ⟨adq', cq', hqv, hq0, hqc⟩ := nrow_parts hro
      obtain ⟨ea, ec⟩ : adq' = adq ∧ cq' = cq := by injection hqv with a b c; exact ⟨a.symm, c.symm⟩
      subst adq' cq'
      clear hqv
      have hql : (quanta l).length = m := by rw [quanta_len, HM.out]
      have HNW := Lib.hid (new_some w2 adq cq (quanta l) (by omega) (by omega) hq0 hqc)
      rw [hql] at HNW
      have HQL := Lib.hid hql
      clear hro hq0 hqc hql HO
      go_wp2_with fail
      refine HNW.out.mono ?_
      rintro e w3 ⟨u3, ⟨_, hno⟩ | ⟨_, t, rfl, hmd⟩⟩
      · exact absurd (quanta_good HLB.out) (by rw [hno]; decide)
      have hD3 := hasD_new hmd u3 (quanta_good HLB.out)
      rw [HQL.out] at hD3
      generalize hqf : (fun i => (quanta l).getD i 0) = q at hD3
      have HD3 := Lib.hid hD3
      have HU3 := Lib.hid (HU.out.trans u3 (fun _ _ h => h))
      have hlow : w.heap.size ≤ w2.heap.size := hsz
      have hlow3 := u3.size
      clear hmd u3 hD3 hqf HNW
      go_wp2_with (refine wpList_make_full _ rfl _ _ 39 rfl w3.heap.size TI i1 (.int .i64 0) 1 Try.underlying39 gi gz0 gz1 .i64 .i64 _ _ m rfl rfl rfl rfl (by rw [gz2]; omega) (by unfold maxLen; omega) (Nat.le_refl _) ?_; intro w4x hown hgr)
      have hu4 : Upd Nowhere w3 w4x := (Upd.refl Nowhere w3).grown hgr (fun k _ h => by cases h)
      obtain ⟨cur, hcur, _, _, hcs, hct⟩ := Blk.own hown
      obtain ⟨w4, rfl⟩ : ∃ x, x = w3 := ⟨_, rfl⟩
      have HLS0 : Hid (Lasts w4x w4.heap.size m (fun _ => 0)) := Lib.hid ⟨cur, hcur, by omega, fun i hi => made_at hct hi⟩
      have HD4 := Lib.hid ((HD3.out.re (A' := fun b => b = w4.heap.size) (fun b hb => .inr (Nat.le_of_eq hb.symm))).old hu4)
      have HU4 := Lib.hid (HU3.out.trans hu4 (fun _ _ h => h))
      have htz : tot (fun _ => ([] : List (Nat × Int))) m = 0 := tot_zero.2 (fun _ _ => rfl)
      have HTZ := Lib.hid htz
      clear hown hgr hu4 hcs hct hcur HD3 HU3 HU htz
      go_wp2_with fail
      go_loopw [11, 61] (fun nv c wr => ∃ (k : Nat) (st : Turn) (its : Items) (la : Nat → Int), k ≤ N ∧ c = .int .i64 k ∧ nv = .int .i64 (tot its m : Nat) ∧ HasD (fun b => b = w4.heap.size) w2 wr t m q st its ∧ tot its m ≤ k ∧ InOrder m its la k ∧ Lasts wr w4.heap.size m la ∧ Upd Nowhere w wr) (fun _ c _ => N - (intOf c).toNat)
      case atStart => exact ⟨0, fresh, fun _ => [], fun _ => 0, by omega, rfl, by rw [HTZ.out]; rfl, HD4.out, by rw [HTZ.out]; exact Nat.le_refl _, ⟨(fun _ _ x hx => by cases hx), fun _ _ => List.Pairwise.nil, (fun _ _ x hx => by cases hx), fun _ _ => Int.le_refl _⟩, HLS0.out, HU4.out⟩
      case round =>
        obtain ⟨k, st, its, la, hk, rfl, rfl, hD, htk, hO, hLS, hU⟩ := hrel
        have HD1 := Lib.hid hD
        have HO := Lib.hid hO
        have HLS1 := Lib.hid hLS
        have HU1 := Lib.hid hU
        obtain ⟨w5, rfl⟩ : ∃ x, x = wr := ⟨_, rfl⟩
        clear hD hO hLS hU HD4 HLS0 HU4 HTZ
        by_cases hlt2 : k < N
        · have hI2 : (k : Int) < N := by omega
          obtain ⟨⟨nx, cl, sz⟩, hx⟩ : ∃ x, acts[k]? = some x := ⟨acts[k]'(by rw [HN.out]; exact hlt2), by simp⟩
          have hszb := HAB.out _ (List.mem_of_getElem? hx)
          simp only at hszb
          obtain ⟨ga, oa, rfl⟩ : ∃ g o, ad2 = some ⟨g, o, none⟩ := by
            cases ad2 with
            | none => rw [H02.out rfl] at hx; cases hx
            | some g =>
              have hs := (HC2.out g rfl _ _ (actv_at hx (j := 0) rfl)).1
              obtain ⟨g, o, sp⟩ := g
              simp only at hs
              subst hs
              exact ⟨g, o, rfl⟩
          have r0 : w5.cell? ⟨ga, oa + k * 3, none⟩ = some (.bool nx) := cell_old HU1.out (HC2.out _ rfl _ _ (actv_at hx (j := 0) rfl)).2
          have r1 : w5.cell? ⟨ga, oa + (k * 3 + 1), none⟩ = some (.int .i64 cl) := cell_old HU1.out (HC2.out _ rfl _ _ (actv_at hx (j := 1) rfl)).2
          have r2 : w5.cell? ⟨ga, oa + (k * 3 + 2), none⟩ = some (.int .u64 (sz : Nat)) := cell_old HU1.out (HC2.out _ rfl _ _ (actv_at hx (j := 2) rfl)).2
          have r1' : w5.cell? ⟨ga, oa + k * 3 + 1, none⟩ = some (.int .i64 cl) := by rw [Nat.add_assoc]; exact r1
          have r2' : w5.cell? ⟨ga, oa + k * 3 + 2, none⟩ = some (.int .u64 (sz : Nat)) := by rw [Nat.add_assoc]; exact r2
          clear hx
          go_upto_if 68 with fail
          have hA1 : Blk (w5.alloc (.cells #[.bool nx, .int .i64 cl, .int .u64 (sz : Nat)] TA)) w5.heap.size #[.bool nx, .int .i64 cl, .int .u64 (sz : Nat)] TA := Blk.new _ _ _
          have hUa : Upd Nowhere w5 (w5.alloc (.cells #[.bool nx, .int .i64 cl, .int .u64 (sz : Nat)] TA)) := (Upd.refl _ _).alloc _
          have HD2 := Lib.hid (HD1.out.old hUa)
          have HLS := Lib.hid (HLS1.out.kept hUa id)
          have HU2 := Lib.hid (HU1.out.trans hUa (fun _ _ h => h))
          generalize w5.alloc (.cells #[.bool nx, .int .i64 cl, .int .u64 (sz : Nat)] TA) = w6 at *
          obtain ⟨a0, a1, a2, _, _, _⟩ := cells3 hA1
          clear r0 r1 r2 r1' r2' hUa hA1 HD1 HLS1 HU1
          cases nx with
          | false =>
            have hpos64 : 0 ≤ IntKind.u64.wrap cl := by rw [IntKind.wrap_u64]; omega
            have hlt64 : IntKind.u64.wrap cl ≤ 18446744073709551615 := by rw [IntKind.wrap_u64]; omega
            obtain ⟨u, eu⟩ : ∃ u : Nat, IntKind.u64.wrap cl = (u : Int) := ⟨(IntKind.u64.wrap cl).toNat, (Int.toNat_of_nonneg hpos64).symm⟩
            rw [eu] at hlt64
            have hm0 : ¬ m = 0 := by omega
            obtain ⟨c, hcd, hcm⟩ : ∃ c, u % m = c ∧ c < m := ⟨_, rfl, Nat.mod_lt _ (by omega)⟩
            have em : IntKind.u64.wrap (m : Int) = (m : Int) := by rw [IntKind.wrap_u64]; omega
            have er : (u : Int) % m = (c : Int) := by rw [← hcd]; omega
            have ec : IntKind.i64.wrap (c : Int) = (c : Int) := by rw [IntKind.wrap_i64]; omega
            obtain ⟨s0, hs0, hs2⟩ : ∃ s, sz % 2000 = s ∧ s < 2000 := ⟨_, rfl, Nat.mod_lt _ (by omega)⟩
            have es : (sz : Int) % 2000 = (s0 : Int) := by omega
            obtain ⟨s1, hs1⟩ : ∃ s, s0 + 1 = s := ⟨_, rfl⟩
            have es2 : IntKind.u64.wrap ((s0 : Int) + 1) = (s1 : Int) := by rw [IntKind.wrap_u64]; omega
            obtain ⟨k1, hk1⟩ : ∃ s, k + 1 = s := ⟨_, rfl⟩
            have ek : IntKind.i64.wrap ((k : Int) + 1) = (k1 : Int) := by rw [IntKind.wrap_i64]; omega
            have hlen : (its c).length < 1024 := by have := tot_le its hcm; omega
            have HP := fun u' (hu' : Upd Nowhere w6 u') => Lib.hid (hasD_push (HD2.out.old hu') (fun b hb => by rw [hb]; exact (HLS.out.kept hu' id).lt) hcm s1 (k1 : Int) (by omega) (by omega) hlen)
            have hto := tot_upd its c (its c ++ [(s1, (k1 : Int))]) m hcm
            simp only [List.length_append, List.length_singleton] at hto
            obtain ⟨T0, hT0⟩ : ∃ y, tot its m = y := ⟨_, rfl⟩
            obtain ⟨T2, hT2⟩ : ∃ y, tot (upd its c (its c ++ [(s1, (k1 : Int))])) m = y := ⟨_, rfl⟩
            rw [hT0, hT2] at hto
            have ew : IntKind.i64.wrap ((T0 : Int) + 1) = (T2 : Int) := by rw [IntKind.wrap_i64]; omega
            have HOR := Lib.hid (HO.out.push c s1 (b := (k1 : Int)) (by omega))
            rw [hT0]
            have HT2 := Lib.hid hT2
            have HK1 := Lib.hid hk1
            have hT2k : T2 ≤ k1 := by omega
            clear hcd hs0 hs1 hk1 hT0 hT2 hlen hpos64
            go_upto_region 18 with fail
            refine wp_region_tail 15 (by kernel_rfl) (by kernel_rfl) ?_
            simp only [List.take_succ_cons, List.take_zero, List.drop_succ_cons, List.drop_zero]
            repeat (go_big_quiet_step (fail))
            refine wpQuiet_nil ?_
            rintro _ ⟨nq, rfl⟩
            go_wp2_with fail
            refine (HP _ ((Upd.refl _ _).drewN nq)).out.mono ?_
            rintro e w7 ⟨rfl, h7, u7⟩
            have H7 := Lib.hid h7
            have U7 := Lib.hid (past hlow (HU2.out.drewN nq) u7)
            have HLS7 := Lib.hid ((HLS.out.kept ((Upd.refl Nowhere _).drewN nq) id).kept u7 (fun h => h.2 rfl))
            clear h7 u7 HP
            go_wp2_with fail
            refine Stage.out ?_
            go_wp2_with fail
            go_roundw
            case rel => exact ⟨k1, _, _, la, by have := HK1.out; omega, rfl, by rw [HT2.out], H7.out, by rw [HT2.out]; exact hT2k, HOR.out, HLS7.out, U7.out⟩
            case measure => have := HK1.out; simp [intOf]; omega
          | true =>
            rcases Nat.eq_zero_or_pos (tot its m) with hz | hpos
            · have HN5 := Lib.hid (hasD_next0 HD2.out hz)
              rw [hz]
              go_wp2_with fail
              refine (HN5.out).mono ?_
              rintro e w7 ⟨rfl, rfl⟩
              go_wp2_with fail
              go_roundw
              case rel => exact ⟨k + 1, st, its, la, by omega, by go_num, by rw [hz]; rfl, HD2.out, by omega, ⟨HO.out.above, HO.out.rise, fun c hc x hx => by have := HO.out.most c hc x hx; push_cast; omega, fun c hc => by have := HO.out.past c hc; push_cast; omega⟩, HLS.out, HU2.out⟩
              case measure => simp [intOf]; omega
            · have hne : st.row ≠ [] := fun e => by have := HD2.out.row_nil.1 e; omega
              obtain ⟨hf5, c, r, cr, hs5, hle5⟩ := spin_ends (meas m st + 1) st HD2.out.fits (Nat.lt_succ_self _) hne
              have hf6 := hf5
              rw [hs5] at hf6
              obtain ⟨hcm, x, tl, hx⟩ := hf6.head rfl
              obtain ⟨hlax, hor⟩ := HO.out.pop hcm hx
              have HN5 := Lib.hid (hasD_next HD2.out (fun k hk => by rw [hk]; exact HLS.out.lt) hs5 hne hx)
              have hto := tot_upd its c tl m hcm
              rw [hx] at hto
              simp only [List.length_cons] at hto
              have HOR := Lib.hid hor
              clear hf5 hs5 hf6 hx hor hne
              obtain ⟨x1, x2⟩ := x
              simp only at hlax
              go_wp2_with fail
              refine (HN5.out).mono ?_
              rintro e w5 ⟨rfl, h5, u5⟩
              have HD5 := Lib.hid h5
              have HU5 := Lib.hid (past hlow HU2.out u5)
              have HLS5 := Lib.hid (HLS.out.kept u5 (fun h => h.2 rfl))
              obtain ⟨ll, lz⟩ := HLS5.out.at_ hcm
              obtain ⟨lac, hlac⟩ : ∃ y, la c = y := ⟨_, rfl⟩
              rw [hlac] at ll hlax
              have p1 : decide ((c : Int) < 0) = false := decide_eq_false (by omega)
              have p2 : decide (m ≤ c) = false := decide_eq_false (by omega)
              have p3 : decide ((x2 : Int) ≤ lac) = false := decide_eq_false (by omega)
              have p4 : (c : Int) < m := by omega
              have p5 : decide ((tot its m : Nat) > 0) = true := decide_eq_true (by omega)
              have p6 : decide (((tot its m : Nat) : Int) > 0) = true := decide_eq_true (by omega)
              have p7 : decide (0 < tot its m) = true := decide_eq_true (by omega)
              have ew : IntKind.i64.wrap (((tot its m : Nat) : Int) - 1) = ((tot (upd its c tl) m : Nat) : Int) := by rw [IntKind.wrap_i64]; omega
              have HLAC := Lib.hid hlac
              have hset : Upd (fun b => b = w4.heap.size) w5 (w5.setCell ⟨w4.heap.size, c, none⟩ (.int .i64 x2)) := Upd.setCell (S := fun b => b = w4.heap.size) (a := ⟨w4.heap.size, c, none⟩) (Upd.refl _ _) (fun _ => rfl) _
              have HSET := Lib.hid hset
              obtain ⟨T2, hT2⟩ : ∃ y, tot (upd its c tl) m = y := ⟨_, rfl⟩
              rw [hT2] at ew
              have HT2 := Lib.hid hT2
              clear h5 u5 hlac hset hT2
              go_wp2_with fail
              go_roundw
              case rel => exact ⟨k + 1, _, _, _, by omega, by go_num, by rw [HT2.out], HD5.out.kept HSET.out (fun b hb _ => .inl hb), by have := HT2.out; omega, ⟨HOR.out.above, HOR.out.rise, fun c hc x hx => by have := HOR.out.most c hc x hx; push_cast; omega, fun c hc => by have := HOR.out.past c hc; push_cast; omega⟩, HLS5.out.set hcm _, HU5.out.setNew (a := ⟨w4.heap.size, c, none⟩) (by have := HU5.out.size; simp; omega) _⟩
              case measure => simp [intOf]; omega
        · have hI2 : ¬ (k : Int) < N := by omega
          have hkb : tot its m ≤ 300 := by omega
          clear htk
          go_wp2_with fail
          go_loopw [11] (fun nv wr => ∃ (st : Turn) (its : Items) (la : Nat → Int), nv = .int .i64 (tot its m : Nat) ∧ tot its m ≤ 300 ∧ HasD (fun b => b = w4.heap.size) w2 wr t m q st its ∧ InOrder m its la k ∧ Lasts wr w4.heap.size m la ∧ Upd Nowhere w wr) (fun nv _ => (intOf nv).toNat)
          case atStart => exact ⟨st, its, la, rfl, hkb, HD1.out, HO.out, HLS1.out, HU1.out⟩
          case round =>
            clear HD1 HO HLS1 HU1 hkb
            obtain ⟨st, its, la, rfl, hkb, hD, hO, hLS, hU⟩ := hrel
            have HD2 := Lib.hid hD
            have HO := Lib.hid hO
            have HLS := Lib.hid hLS
            have HU2 := Lib.hid hU
            obtain ⟨w6, rfl⟩ : ∃ x, x = wr := ⟨_, rfl⟩
            clear hD hO hLS hU
            rcases Nat.eq_zero_or_pos (tot its m) with hz | hpos
            · have HLn := Lib.hid (hasD_len HD2.out)
              have HRw := Lib.hid (hasD_row HD2.out)
              rw [hz] at HLn ⊢
              have hrn := HD2.out.row_nil.2 hz
              rw [hrn] at HRw
              clear hrn hz
              go_wp2_with fail
              refine (HLn.out).mono ?_
              rintro e w7 ⟨rfl, rfl⟩
              go_wp2_with fail
              refine (HRw.out).mono ?_
              rintro e w7 ⟨v7, rfl, hr7, hu7⟩
              obtain ⟨a7, c7, rfl, _, _⟩ := hr7
              go_wp2_with fail
              refine ((HL _).out).mono ?_
              rintro e w8 ⟨rfl, u8⟩
              go_wp2_with fail
              go_ret
              exact ⟨rfl, (HU2.out.trans hu7 (fun _ _ h => h)).trans u8 (fun _ _ h => h)⟩
            · have hne : st.row ≠ [] := fun e => by have := HD2.out.row_nil.1 e; omega
              obtain ⟨hf5, c, r, cr, hs5, hle5⟩ := spin_ends (meas m st + 1) st HD2.out.fits (Nat.lt_succ_self _) hne
              have hf6 := hf5
              rw [hs5] at hf6
              obtain ⟨hcm, x, tl, hx⟩ := hf6.head rfl
              obtain ⟨hlax, hor⟩ := HO.out.pop hcm hx
              have HN5 := Lib.hid (hasD_next HD2.out (fun k hk => by rw [hk]; exact HLS.out.lt) hs5 hne hx)
              have hto := tot_upd its c tl m hcm
              rw [hx] at hto
              simp only [List.length_cons] at hto
              have HOR := Lib.hid hor
              clear hf5 hs5 hf6 hx hor hne
              obtain ⟨x1, x2⟩ := x
              simp only at hlax
              go_wp2_with fail
              refine (HN5.out).mono ?_
              rintro e w5 ⟨rfl, h5, u5⟩
              have HD5 := Lib.hid h5
              have HU5 := Lib.hid (past hlow HU2.out u5)
              have HLS5 := Lib.hid (HLS.out.kept u5 (fun h => h.2 rfl))
              obtain ⟨ll, lz⟩ := HLS5.out.at_ hcm
              obtain ⟨lac, hlac⟩ : ∃ y, la c = y := ⟨_, rfl⟩
              rw [hlac] at ll hlax
              have p1 : decide ((c : Int) < 0) = false := decide_eq_false (by omega)
              have p2 : decide (m ≤ c) = false := decide_eq_false (by omega)
              have p3 : decide ((x2 : Int) ≤ lac) = false := decide_eq_false (by omega)
              have p4 : (c : Int) < m := by omega
              have p5 : decide ((tot its m : Nat) > 0) = true := decide_eq_true (by omega)
              have p6 : decide (((tot its m : Nat) : Int) > 0) = true := decide_eq_true (by omega)
              have p7 : decide (0 < tot its m) = true := decide_eq_true (by omega)
              have ew : IntKind.i64.wrap (((tot its m : Nat) : Int) - 1) = ((tot (upd its c tl) m : Nat) : Int) := by rw [IntKind.wrap_i64]; omega
              have HLAC := Lib.hid hlac
              have hset : Upd (fun b => b = w4.heap.size) w5 (w5.setCell ⟨w4.heap.size, c, none⟩ (.int .i64 x2)) := Upd.setCell (S := fun b => b = w4.heap.size) (a := ⟨w4.heap.size, c, none⟩) (Upd.refl _ _) (fun _ => rfl) _
              have HSET := Lib.hid hset
              obtain ⟨T2, hT2⟩ : ∃ y, tot (upd its c tl) m = y := ⟨_, rfl⟩
              rw [hT2] at ew
              have HT2 := Lib.hid hT2
              clear h5 u5 hlac hset hT2
              go_wp2_with fail
              go_roundw
              case rel => exact ⟨_, _, _, by rw [HT2.out], by have := HT2.out; omega, HD5.out.kept HSET.out (fun b hb _ => .inl hb), HOR.out, HLS5.out.set hcm _, HU5.out.setNew (a := ⟨w4.heap.size, c, none⟩) (by have := HU5.out.size; simp; omega) _⟩
              case measure => have := HT2.out; simp [intOf]; omega
theorem order_law (v : Value) (l : List Int) (v2 : Value) (acts : List (Bool × Int × Nat)) (w : World) (hr : RowAt w v (l.map (.int .u16))) (hw : ∀ n ∈ l, (Lit.int .u16 n).wf = true) (hb : ∀ a ∈ acts, a.2.2 ≤ 18446744073709551615) (hv : RowsAt w v2 acts.length (acts.flatMap actv)) :
    Calls Try.prog 8 #[v, v2] w fun e w' => e = .returned (.bool true) ∧ Upd Nowhere w w' := by
  obtain ⟨ad2, ca2, rfl, h02, _, _, hc2⟩ := hv
  have hb16 : ∀ x ∈ l, 0 ≤ x ∧ x ≤ 65535 := fun x hx => by have := bd16 (hw x hx); omega
  have hnr : RowAt w v (nrow .u16 (l.map Int.toNat)) := by
    have e : nrow .u16 (l.map Int.toNat) = l.map (.int .u16) := by
      unfold nrow
      rw [List.map_map]
      exact List.map_congr_left fun x hx => by show Value.int .u16 ((x.toNat : Nat) : Int) = _; rw [Int.toNat_of_nonneg (hb16 x hx).1]
    rw [e]; exact hr
  obtain ⟨ad, ca, rfl, h0, hc⟩ := nrow_parts hnr
  by_cases hbig : (l.map Int.toNat).length = 0 ∨ 20 < (l.map Int.toNat).length ∨ 300 < acts.length
  · exact order_big ad _ ca ad2 _ ca2 w hbig
  · exact order_walk ad ca (l.map Int.toNat) (by omega) (by omega) (fun x hx => by obtain ⟨y, hy, rfl⟩ := List.mem_map.1 hx; have := hb16 y hy; omega) ad2 ca2 acts (by omega) hb w h0 hc (fun h => List.eq_nil_of_length_eq_zero (h02 h).1) hc2
end Go.Proofs.Ytopibbaopglggaa.Drr
