/- TreePaces, TreePaces2, one behind the other. -/
import Derived.Test.YtllfloapiliheaaDoorMTreeRw
import Derived.Deep.RegionLaw
import Derived.Deep.RegionHeldLaw
namespace Go.Proofs.YtllfloapiliheaaDoor.Tree
open Go.RowKit Go.Proofs BigFrame
set_option maxHeartbeats 40000000
set_option maxRecDepth 1000000
set_option linter.unusedSimpArgs false
theorem make_n (W : Nat) (h : W ≤ 4096) : ∃ cs : Array Value, (cs.size = W ∧ ∀ i, i < W → cs[i]? = some (.int .u64 0)) ∧ ∀ u : World, (Instr.makeSlice 33 (.int .i64 W) (.int .i64 W)).run Tryd.prog u = .ok (.slice (some ⟨u.heap.size, 0, none⟩) W W) (u.alloc (.cells cs TU64)) := by
  obtain ⟨i0, hi, hz0, hz1, hz2⟩ := info_parts infoU64
  refine ⟨madeCells #[.int .u64 0] W, ⟨by simp [madeCells], fun i hi => by simp [madeCells, hi, Nat.mod_one]⟩, fun u => ?_⟩
  have h := Go.run_make (P := Tryd.prog) u 33 TU64 i0 (.int .u64 0) Tryd.underlying33 hi hz0 .i64 .i64 W W (by omega) (by omega) (by rw [hz2]; omega) (by omega)
  rw [h, hz1]
  simp [Value.cells]
theorem make_s (W : Nat) (h : W ≤ 4096) : ∃ cs : Array Value, (cs.size = W ∧ ∀ i, i < W → cs[i]? = some (.slice none 0 0)) ∧ ∀ u : World, (Instr.makeSlice 34 (.int .i64 W) (.int .i64 W)).run Tryd.prog u = .ok (.slice (some ⟨u.heap.size, 0, none⟩) W W) (u.alloc (.cells cs TUs)) := by
  obtain ⟨i0, hi, hz0, hz1, hz2⟩ := info_parts infoUs
  refine ⟨madeCells #[.slice none 0 0] W, ⟨by simp [madeCells], fun i hi => by simp [madeCells, hi, Nat.mod_one]⟩, fun u => ?_⟩
  have h := Go.run_make (P := Tryd.prog) u 34 TUs i0 (.slice none 0 0) Tryd.underlying34 hi hz0 .i64 .i64 W W (by omega) (by omega) (by rw [hz2]; omega) (by omega)
  rw [h, hz1]
  simp [Value.cells]
theorem paces_big (ad : Option Addr) (k c : Nat) (g : Nat) (ad2 : Option Addr) (n c2 : Nat) (w : World) (E : Env w) (h : k < 1 ∨ 5 < k ∨ 150 < n) :
    Calls Tryd.prog 5 #[.slice ad k c, .int .u16 g, .slice ad2 n c2] w fun e w' => e = .returned (.bool true) ∧ Upd Nowhere w w' := by
  have HL := Lib.hid (lives w E)
  clear E
  by_cases h1 : k < 1
  · have d1 : decide ((k : Int) < 1) = true := decide_eq_true (by omega)
    have d2 : decide (k < 1) = true := decide_eq_true h1
    clear h h1
    go_enter Tryd.func5, Tryd.ntmps5
    go_wp2_with fail
    refine (HL.out).mono ?_
    rintro e w1 ⟨rfl, u1⟩
    go_wp2_with fail
    go_ret
    exact ⟨rfl, u1⟩
  · have d1 : decide ((k : Int) < 1) = false := decide_eq_false (by omega)
    have d2 : decide (k < 1) = false := decide_eq_false h1
    by_cases h2 : 5 < k
    · have d3 : decide ((k : Int) > 5) = true := decide_eq_true (by omega)
      have d4 : decide (5 < k) = true := decide_eq_true h2
      clear h h1 h2
      go_enter Tryd.func5, Tryd.ntmps5
      go_wp2_with fail
      refine (HL.out).mono ?_
      rintro e w1 ⟨rfl, u1⟩
      go_wp2_with fail
      go_ret
      exact ⟨rfl, u1⟩
    · have d3 : decide ((k : Int) > 5) = false := decide_eq_false (by omega)
      have d4 : decide (5 < k) = false := decide_eq_false h2
      have d5 : decide ((n : Int) > 150) = true := decide_eq_true (by omega)
      have d6 : decide (150 < n) = true := decide_eq_true (by omega)
      clear h h1 h2
      go_enter Tryd.func5, Tryd.ntmps5
      go_wp2_with fail
      refine (HL.out).mono ?_
      rintro e w1 ⟨rfl, u1⟩
      go_wp2_with fail
      go_ret
      exact ⟨rfl, u1⟩
theorem p_ne {w0 w : World} {gs gn K : Nat} {V : Nat → Value} {X : Nat → List Nat} {N : Nat → Nat} {C : Comp} (Q : List Comp) (h : Made w0 w (Q ++ paceL gs gn K V X N C)) : gn ≠ gs := by
  have h2 : Made w0 w (Q ++ soonC gs K V :: (nextC gn K N :: (C :: (List.range K).map (fun i => laneC (V i) (X i))))) := h
  have h3 := h2.perm (l' := soonC gs K V :: (Q ++ (nextC gn K N :: (C :: (List.range K).map (fun i => laneC (V i) (X i)))))) List.perm_middle
  obtain ⟨own, ⟨o, o', h4, h5, h6, _⟩, _⟩ := h3
  obtain ⟨o2, h7, h8, _⟩ := Sep.foc (nextC gn K N) _ _ h5
  intro e
  exact h6 gs ((h4.2 gs).2 rfl) (h8 gs ((h7.2 gs).2 (by rw [e]; rfl)))
theorem keepA2 {w : World} {o : Obj} {a : Addr} {v : Value} (h : w.cell? a = some v ∧ w.cell? a = some v) : (w.alloc o).cell? a = some v ∧ (w.alloc o).cell? a = some v := ⟨cell_old ((Upd.refl _ _).alloc _) h.1, cell_old ((Upd.refl _ _).alloc _) h.1⟩
theorem keepS2 {w : World} {g j i gs : Nat} {u v : Value} (h : w.cell? ⟨g, i, none⟩ = some v ∧ w.cell? ⟨g, i, none⟩ = some v) (hne : g ≠ gs) : (w.setCell ⟨gs, j, none⟩ u).cell? ⟨g, i, none⟩ = some v ∧ (w.setCell ⟨gs, j, none⟩ u).cell? ⟨g, i, none⟩ = some v := by
  have k : (w.setCell ⟨gs, j, none⟩ u).cell? ⟨g, i, none⟩ = some v := by
    rw [World.cell?_of_block (w := w) (Below.heap_setCell _ _ _ _ hne)]; exact h.1
  exact ⟨k, k⟩
theorem keepB2 {w : World} {g j i gs : Nat} {u v : Value} (h : (w.setCell ⟨gs, j, none⟩ u).cell? ⟨g, i, none⟩ = some v) (hne : g ≠ gs) : w.cell? ⟨g, i, none⟩ = some v ∧ w.cell? ⟨g, i, none⟩ = some v := by
  rw [World.cell?_of_block (w := w) (Below.heap_setCell _ _ _ _ hne)] at h
  exact ⟨h, h⟩
theorem nb_up {a k B : Nat} (h : a ≤ 1 + k * B) : a ≤ 1 + (k + 1) * B := by have e : (k + 1) * B = k * B + B := Nat.succ_mul k B; omega
theorem len_up {a k : Nat} (h : a ≤ k) : a ≤ k + 1 := Nat.le_succ_of_le h
/-- What stands at the loop's head. -/
structure At (w wr : World) (sh : Sh) (L : Lay) (K gs gn k T : Nat) : Prop where
  ex : ∃ (V : Nat → Value) (X : Nat → List Nat) (N : Nat → Nat) (s : TS), Pac sh K s X N ∧ s.now = T ∧ Made w wr (paceL gs gn K V X N (treeC L sh 4096 s (k * 10000000))) ∧ (∀ i, i < K → N i ≤ 1 + k * 1103806595072) ∧ ∀ i, i < K → (X i).length ≤ k
theorem paces_walk (ad : Option Addr) (c : Nat) (ws : List Nat) (g : Nat) (hg : g ≤ 65535) (ad2 : Option Addr) (c2 : Nat) (l : List Act) (w : World) (E : Env w) (hw : Wts w ad ws) (hb : ∀ x ∈ ws, x < 4294967296) (h1 : 1 ≤ ws.length) (h5 : ws.length ≤ 5) (h150 : l.length ≤ 150) (ha : Acts w ad2 l) (hok : ∀ a ∈ l, a.Ok) :
    Calls Tryd.prog 5 #[.slice ad ws.length c, .int .u16 g, .slice ad2 l.length c2] w fun e w' => e = .returned (.bool true) ∧ Upd Nowhere w w' := by
  obtain ⟨gap, hgap⟩ : ∃ gap, g + 1 = gap := ⟨_, rfl⟩
  have hgp : gap ≤ 65536 := by omega
  have hf := flat_sh 1 ws gap
  have hsh := shOf_ok (l := flatN 1 ws gap) (flatN_ok (by omega) (by omega)) (by rw [flatN_len]; omega) (by rw [flatN_len]; omega) (flatN_fit hb (by omega))
  have HFL := Lib.hid (flat_ok 1 ad c ws gap w hw hb (by omega))
  have HN := fun u adn cn (hm : Made w u []) (hn : NodesAt u adn (flatN 1 ws gap)) => Lib.hid (m_new (room := 4096) (cp := cn) hm E hn (by rw [flatN_len]; omega) (by rw [flatN_len]; omega) (flatN_ok (by omega) (by omega)) (by omega) (by omega))
  have HL := fun u (hu : Upd Nowhere w u) => Lib.hid (lives u (E.old hu))
  obtain ⟨n, hnl⟩ : ∃ n, l.length = n := ⟨_, rfl⟩
  obtain ⟨K, hK⟩ : ∃ K, ws.length = K := ⟨_, rfl⟩
  obtain ⟨sh, hsh2⟩ : ∃ sh, shOf (flatN 1 ws gap) = sh := ⟨_, rfl⟩
  rw [hsh2] at hsh HN hf
  rw [hK] at HFL h1 h5 ⊢
  rw [hnl] at h150 ⊢
  obtain ⟨csS, hcsS, hmkS⟩ := make_s K (by omega)
  obtain ⟨csN, hcsN, hmkN⟩ := make_n K (by omega)
  have HCS := Lib.hid hcsS
  have HCN := Lib.hid hcsN
  have HE := Lib.hid E
  have HA := Lib.hid ha
  have HO := Lib.hid hok
  have HNL := Lib.hid hnl
  have HKL := Lib.hid hK
  have HS := Lib.hid hsh
  have HF := Lib.hid hf
  clear E ha hok hnl hK hsh hf hw hb hsh2 hcsS hcsN
  have d1 : decide ((K : Int) < 1) = false := decide_eq_false (by omega)
  have d2 : decide (K < 1) = false := decide_eq_false (by omega)
  have d3 : decide ((K : Int) > 5) = false := decide_eq_false (by omega)
  have d4 : decide (5 < K) = false := decide_eq_false (by omega)
  have d5 : decide ((n : Int) > 150) = false := decide_eq_false (by omega)
  have d6 : decide (150 < n) = false := decide_eq_false (by omega)
  have e0 : IntKind.u64.wrap (g : Int) = (g : Int) := by rw [IntKind.wrap_u64]; omega
  have e1 : (g : Int) + 1 = (gap : Int) := by omega
  have HGG := Lib.hid hgap
  clear hgap
  go_enter Tryd.func5, Tryd.ntmps5
  go_wp2_with fail
  refine (HFL.out).mono ?_
  rintro e w1 ⟨⟨adn, cn, rfl, hnd⟩, u1⟩
  have HN1 := Lib.hid (HN w1 adn cn ((Made.start w).old u1) hnd).out
  clear HFL HN hnd u1
  go_wp2_with fail
  refine (HN1.out).mono ?_
  rintro e w2 ⟨L, rfl, h2⟩
  have H2 := Lib.hid h2
  clear HN1 d1 d2 d3 d4 d5 d6 h2
  go_upto_region 7 with fail
  go_cut [10, 11] (fun sv nv wc => ∃ gs gn : Nat, sv = .slice (some ⟨gs, 0, none⟩) K K ∧ nv = .slice (some ⟨gn, 0, none⟩) K K ∧ At w wc sh L K gs gn 0 0)
  case first =>
    have hpac : Pac sh K s0 (fun _ => []) (fun _ => 0) := ⟨fun i hi a ha => (by cases ha), fun i hi => ⟨[], [], rfl, rfl, fun x hx => (by cases hx), Le2.nil⟩, fun i hi => ⟨fun t ht => (by cases ht), Nat.zero_le _⟩⟩
    have hat : ∀ (w3 : World) (gs gn : Nat), Upd Nowhere w2 w3 → Blk w3 gs csS TUs → Blk w3 gn csN TU64 → gs ≠ gn → w2.heap.size ≤ gs → w2.heap.size ≤ gn → At w w3 sh L K gs gn 0 0 := fun w3 gs gn hu hs hn hne h1 h2 =>
      ⟨_, _, _, s0, hpac, rfl, p_made (gs0 := 0) (gn0 := 0) H2.out hu hs hn HCS.out.1 HCN.out.1 HCS.out.2 HCN.out.2 hne h1 h2 rfl (by omega), fun i hi => by omega, fun i hi => Nat.le_refl _⟩
    have HAT := Lib.hid hat
    clear hat hpac
    go_region
    all_goals
      go_wp2_with fail
      go_meet
      first
        | exact ⟨_, _, rfl, rfl, HAT.out _ _ _ (((Upd.refl _ _).alloc _).alloc _).drew ((Blk.new _ _ _).alloc _).drew (Blk.new2 _ _ _ _).drew (by omega) (by omega) (by omega)⟩
        | exact ⟨_, _, rfl, rfl, HAT.out _ _ _ (((Upd.refl _ _).alloc _).alloc _).drew (Blk.new2 _ _ _ _).drew ((Blk.new _ _ _).alloc _).drew (by omega) (by omega) (by omega)⟩
  case rest =>
    as_aux_lemma =>
      obtain ⟨gs, gn, rfl, rfl, hat⟩ := hcut
      obtain ⟨wC, rfl⟩ : ∃ x, x = wc := ⟨_, rfl⟩
      have HAT := Lib.hid hat
      clear hat H2 HCS HCN hmkS hmkN
      go_wp2_with fail
      go_loopw [12, 56] (fun tv i wr => ∃ k T : Nat, i = .int .i64 k ∧ tv = .int .u64 (T : Nat) ∧ k ≤ n ∧ T ≤ k * 1099511627776 ∧ At w wr sh L K gs gn k T) (fun _ i _ => n - (intOf i).toNat)
      case atStart => exact ⟨0, 0, rfl, rfl, Nat.zero_le _, Nat.zero_le _, HAT.out⟩
      case round =>
        obtain ⟨k, T, rfl, rfl, hk, hT, ⟨V, X, N, s, hpac, hnow, hM, hNb, hXl⟩⟩ := hrel
        obtain ⟨wB, rfl⟩ : ∃ x, x = wr := ⟨_, rfl⟩
        clear HAT
        by_cases hlt : k < n
        · have hI : (k : Int) < n := by omega
          obtain ⟨x, hx⟩ : ∃ x, l[k]? = some x := ⟨l[k]'(by rw [HNL.out]; exact hlt), by simp⟩
          obtain ⟨o1, o2, o3, o4⟩ := HO.out x (List.mem_of_getElem? hx)
          obtain ⟨ga, oa, rfl, ⟨r0, r1, r2, r3, r4, r5⟩, ⟨r1', r2', r3', r4', r5'⟩⟩ := HA.out.get hM.upd hx
          obtain ⟨_, _, hgs⟩ := m_tree ([] ++ [soonC gs K V, nextC gn K N]) _ (p_tree [] hM)
          have hM1 := m_blk hM (actA x) TAct
          obtain ⟨p, t, nd, fl, id, len⟩ := x
          simp only at r0 r1 r2 r3 r4 r5 r1' r2' r3' r4' r5' o1 o2 o3 o4
          have HGS := Lib.hid hgs
          have HPAC := Lib.hid hpac
          have HNOW := Lib.hid hnow
          have HNB := Lib.hid hNb
          have HXL := Lib.hid hXl
          obtain ⟨XB, hXB⟩ : ∃ XB, wB.heap.size = XB := ⟨_, rfl⟩
          rw [hXB] at hM1
          have HM1 := Lib.hid hM1
          have HXB := Lib.hid hXB
          have hkk : k * 10000000 + 20000000 < 18446744073709551615 := by omega
          have hkk2 : (k + 1) * 10000000 = k * 10000000 + 10000000 := Nat.succ_mul k _
          have hkk3 : (k + 1) * 1099511627776 = k * 1099511627776 + 1099511627776 := Nat.succ_mul k _
          have hkk4 : (k + 1) * 1103806595072 = k * 1103806595072 + 1103806595072 := Nat.succ_mul k _
          obtain ⟨d, hd⟩ : ∃ d, t % 1099511627776 = d := ⟨_, rfl⟩
          have hd1 : d < 1099511627776 := by omega
          have hd2 : (t : Int) % 1099511627776 = (d : Int) := by omega
          have hd3 : (t : Int).tmod 1099511627776 = (d : Int) := by rw [Int.tmod_eq_emod_of_nonneg (by omega)]; omega
          obtain ⟨T2, hT2⟩ : ∃ T2, T + d = T2 := ⟨_, rfl⟩
          have hT3 : (T : Int) + (d : Int) = (T2 : Int) := by omega
          have hT4 : T2 ≤ (k + 1) * 1099511627776 := by omega
          have hT5 : T2 ≤ 18446744073709551615 := by omega
          have hT6 : T ≤ T2 := by omega
          clear hM hM1 hgs hx hXB hpac hnow hd hT2 hNb hXl
          go_upto_region 12 with fail
          have hXB := HXB.out
          try simp only [hXB]
          clear hXB
          generalize wB.alloc (.cells #[.bool p, .int .u64 t, .int .i64 nd, .int .u32 fl, .int .u32 id, .int .u64 len] TAct) = w4 at *
          have hc0 : w4.cell? ⟨XB, 0, none⟩ = some (.bool p) := by
            obtain ⟨o, h1, _, _⟩ := Made.foc (blkC XB _ TAct) (paceL gs gn K V X N (treeC L sh 4096 s (k * 10000000))) [] HM1.out
            exact h1.1.cellAt rfl
          obtain ⟨x1, x2, x3, x4, x5⟩ := x_cells HM1.out
          simp only at x1 x2 x3 x4 x5
          clear r0 r1 r2 r3 r4 r5 r1' r2' r3' r4' r5'
          cases p with
          | true =>
            obtain ⟨s1, hs1⟩ : ∃ s1, pass sh s T2 = s1 := ⟨_, rfl⟩
            have hg1 := pass_good HS.out HGS.out hT5
            have hnw1 := (pass_bal HS.out HGS.out.bal hT5).2.2.1
            have hp1 : Pac sh K (pass sh s T2) X N := by
              have h9 := HPAC.out
              rw [← HKL.out] at h9 ⊢
              exact h9.pass HS.out HF.out HGS.out.bal hT5
            rw [hs1] at hg1 hnw1 hp1
            have hnw2 : s1.now = T2 := by have := HNOW.out; omega
            have HP1 := Lib.hid hp1
            have HNW := Lib.hid hnw2
            have hcase := flat_pop HS.out HF.out (by rw [HKL.out]; omega) hs1 hg1
            clear hs1 hg1 hnw1 hp1 hnw2
            have hpl := p_tree [blkC XB (actA { pop := true, later := t, node := nd, fl := fl, id := id, len := len }) TAct] HM1.out
            have herr : ∀ v : Nat, v ≠ 0 → pop sh s T2 = ((0, 0, 0), v, s1) → ∃ v : Nat, v ≠ 0 ∧ pop sh s T2 = ((0, 0, 0), v, s1) := fun v h1 h2 => ⟨v, h1, h2⟩
            have hcase2 : (∃ v : Nat, v ≠ 0 ∧ pop sh s T2 = ((0, 0, 0), v, s1)) ∨ _ := hcase.elim (fun h => .inl ⟨18, by omega, h.1⟩) (fun h => h.elim (fun h => .inl ⟨19, by omega, h.1⟩) .inr)
            clear hcase herr
            rcases hcase2 with ⟨v, hv0, hv⟩ | ⟨r, t0, i, r1, p, t1, h1, hi, h3, hv⟩
            · have q0 : ((v : Int) == 0) = false := by simp; omega
              go_wp2_with fail
              refine (m_pop _ _ hpl HE.out HS.out (by omega) hkk hT5 hv).mono ?_
              rintro e w5 ⟨rfl, h5⟩
              have H5 := Lib.hid ((p_tree' [blkC XB _ TAct] h5).drop.old ((Upd.refl Nowhere w5).alloc (.cells #[.int .u32 0, .int .u32 0, .int .u64 0] TPk)))
              clear h5 hpl hc0 x1 x2 x3 x4 x5 HM1 hv hv0
              go_wp2_with fail
              go_roundw
              case rel => exact ⟨k + 1, T2, by first | rfl | go_num, rfl, by omega, hT4, ⟨V, X, N, s1, HP1.out, HNW.out, by rw [hkk2]; exact H5.out, fun i hi => nb_up (HNB.out i hi), fun i hi => len_up (HXL.out i hi)⟩⟩
              case measure => simp [intOf]; omega
            · have hleft : p.1 = i ∧ ∃ x xr, X i = x :: xr ∧ x ≤ s1.now ∧ Pac sh K (got sh s1 r t0 i t1) (up X i xr) N := by
                have h9 := HP1.out
                rw [← HKL.out] at h9 ⊢
                exact h9.left h1 hi h3
              obtain ⟨hp0, y, xr, hX, hy, hpl2⟩ := hleft
              obtain ⟨p1, p2, p3⟩ := p
              have hp0 : p1 = i := hp0
              subst hp0
              have hiK : p1 < K := by rw [← HKL.out]; exact hi
              have hs2n : (got sh s1 r t0 p1 t1).now = T2 := by rw [got_now]; exact HNW.out
              have hyT : y ≤ T2 := by have := HNW.out; omega
              have HPL2 := Lib.hid hpl2
              have HS2N := Lib.hid hs2n
              have hlenx : (X p1).length ≤ k := HXL.out p1 hiK
              go_wp2_with fail
              refine (m_pop _ _ hpl HE.out HS.out (by omega) hkk hT5 hv).mono ?_
              rintro e w5 ⟨rfl, h5⟩
              have h6 := m_blk (p_tree' [blkC XB _ TAct] h5).drop #[.int .u32 p1, .int .u32 p2, .int .u64 p3] TPk
              clear h5 hpl hc0 x1 x2 x3 x4 x5 HM1 hv hpl2 hs2n h1 h3 hy hi
              go_upto_region 15 with fail
              generalize w5.alloc (.cells #[.int .u32 p1, .int .u32 p2, .int .u64 p3] TPk) = w6 at *
              generalize w5.heap.size = PB at *
              obtain ⟨_, hq, _, _⟩ := Made.foc (blkC PB #[.int .u32 p1, .int .u32 p2, .int .u64 p3] TPk) _ [] h6
              obtain ⟨c0, c1, c2, -⟩ := cells3 hq.1
              obtain ⟨z0, z1⟩ := p_soon [] h6.drop hiK
              obtain ⟨hln, hne⟩ := p_lane [] h6.drop hiK
              rw [hX] at hln
              obtain ⟨g2, o2, cv, hVi, y0, _, hln2⟩ := hln.cons
              rw [hVi] at z0
              have H6 := Lib.hid h6.drop
              obtain ⟨M, hM⟩ : ∃ M, xr.length + 1 = M := ⟨_, rfl⟩
              rw [hM] at z0
              have g1 : decide ((p1 : Int) ≥ (K : Int)) = false := decide_eq_false (by omega)
              have g2' : decide (K ≤ p1) = false := decide_eq_false (by omega)
              have g3 : ((M : Int) == 0) = false := by simp; omega
              have g4 : decide ((T2 : Int) < (y : Int)) = false := decide_eq_false (by omega)
              have g5 : decide (T2 < y) = false := decide_eq_false (by omega)
              have hiKI : (p1 : Int) < (K : Int) := by omega
              have e5 : IntKind.i64.wrap (p1 : Int) = (p1 : Int) := by rw [IntKind.wrap_i64]; omega
              have hM1' : (0 : Int) < (M : Int) := by omega
              have hM2' : (1 : Int) ≤ (M : Int) := by omega
              have hXL2 : ∀ i, i < K → (up X p1 xr i).length ≤ k + 1 := fun i hi => by
                unfold up
                split
                · have := HXL.out p1 hiK
                  rw [hX] at this; simp at this; omega
                · have := HXL.out i hi; omega
              have HXL2 := Lib.hid hXL2
              have HVI := Lib.hid hVi
              have HLN2 := Lib.hid hln2
              have HMM := Lib.hid hM
              clear hq h6 hX hln hne hVi hln2 hXL2 hlenx hyT hM
              go_upto_region 19 with fail
              by_cases hcv : cv = 0
              · have hl9 : LU.Lane TU64 w6 (.slice (some ⟨g2, o2, none⟩) xr.length 0) xr := by have h9 := HLN2.out; rw [if_pos hcv, hcv] at h9; exact h9
                obtain ⟨M0, hM0⟩ : ∃ M0, xr.length = M0 := ⟨_, rfl⟩
                have H7 := Lib.hid (p_turn [] H6.out hiK (Upd.refl _ _) (Upd.refl _ _) (by rw [HVI.out]; exact fun k hk => .inl hk) hl9)
                rw [hM0] at H7
                have hMe : M = M0 + 1 := by have := HMM.out; omega
                subst hMe
                subst hcv
                clear hl9 hM0 HLN2
                go_wp2_with fail
                go_roundw
                case rel => exact ⟨k + 1, T2, by first | rfl | go_num, rfl, by omega, hT4, ⟨_, _, N, _, HPL2.out, HS2N.out, by rw [hkk2]; exact H7.out, fun i hi => nb_up (HNB.out i hi), HXL2.out⟩⟩
                case measure => simp [intOf]; omega
              · have hl9 : LU.Lane TU64 w6 (.slice (some ⟨g2, o2 + 1, none⟩) xr.length cv) xr := by have h9 := HLN2.out; rw [if_neg hcv] at h9; exact h9
                obtain ⟨M0, hM0⟩ : ∃ M0, xr.length = M0 := ⟨_, rfl⟩
                have H7 := Lib.hid (p_turn [] H6.out hiK (Upd.refl _ _) (Upd.refl _ _) (by rw [HVI.out]; exact fun k hk => .inl hk) hl9)
                rw [hM0] at H7
                have hMe : M = M0 + 1 := by have := HMM.out; omega
                subst hMe
                clear hl9 hM0 HLN2
                go_wp2_with fail
                go_roundw
                case rel => exact ⟨k + 1, T2, by first | rfl | go_num, rfl, by omega, hT4, ⟨_, _, N, _, HPL2.out, HS2N.out, by rw [hkk2]; exact H7.out, fun i hi => nb_up (HNB.out i hi), HXL2.out⟩⟩
                case measure => simp [intOf]; omega
          | false =>
            obtain ⟨U, hU⟩ : ∃ U : Nat, IntKind.u64.wrap nd = (U : Int) := ⟨(IntKind.u64.wrap nd).toNat, by rw [IntKind.wrap_u64]; omega⟩
            obtain ⟨i, hi⟩ : ∃ i, U % K = i := ⟨_, rfl⟩
            have hiK : i < K := by rw [← hi]; exact Nat.mod_lt _ (by omega)
            have e5 : IntKind.u64.wrap (K : Int) = (K : Int) := by rw [IntKind.wrap_u64]; omega
            have e6 : (U : Int).tmod (K : Int) = (i : Int) := by rw [Int.tmod_eq_emod_of_nonneg (by omega)]; omega
            have e6' : (U : Int) % (K : Int) = (i : Int) := by omega
            have hK0 : ¬ (K : Int) = 0 := by omega
            have hK1 : ¬ K = 0 := by omega
            clear hi
            obtain ⟨i1, hi1⟩ : ∃ i1, i + 1 = i1 := ⟨_, rfl⟩
            have e7 : IntKind.u32.wrap (i : Int) = (i : Int) := by rw [IntKind.wrap_u32]; omega
            have e8 : (i : Int) + 1 = (i1 : Int) := by omega
            have hi2 : i < ws.length := by rw [HKL.out]; exact hiK
            have hpu := held_push (room := 4096) HS.out HF.out (by have := HGG.out; omega) HGS.out (by have h9 := HPAC.out; rw [← HKL.out] at h9; exact h9) hi2 0 len (by omega) (by omega) hT5 (by rw [HNOW.out]; exact hT6)
            rw [hi1, HKL.out] at hpu
            obtain ⟨v, s', hv, hnw, hor⟩ := hpu
            have HOR := Lib.hid hor
            have HNW := Lib.hid hnw
            have hpl := p_tree [blkC XB (actA { pop := false, later := t, node := nd, fl := fl, id := id, len := len }) TAct] HM1.out
            clear hor hi1 hnw
            go_wp2_with fail
            refine (m_push _ _ hpl HE.out HS.out (by omega) hkk hT5 i1 i 0 len (by omega) (by omega) o4 hv).mono ?_
            rintro e w5 ⟨rfl, h5⟩
            have H5 := Lib.hid (p_tree' [blkC XB _ TAct] h5)
            clear h5 hpl hc0 x1 x2 x3 x4 x5 HM1 hv
            by_cases hv0 : v = 0
            · have q0 : ((v : Int) == 0) = true := by simp; omega
              obtain ⟨hl1, hl2, hpc⟩ : 1 ≤ len ∧ len ≤ 65535 ∧ ∀ y, y = (if N i = 0 then T2 + 1 else N i) → y + gap * len ≤ 18446744073709551615 → Pac sh K s' (up X i (X i ++ [y - 1])) (up N i (y + gap * len)) := HOR.out.elim (fun h => absurd hv0 h.1) (fun h => h.2)
              have HPC := Lib.hid hpc
              obtain ⟨b0, b1⟩ := p_next [blkC XB _ TAct] H5.out hiK
              clear hpc hv0 HOR
              go_upto_if 130 with fail
              go_cut [] from 126 to 135 (fun wc => ∃ y : Nat, y = (if N i = 0 then T2 + 1 else N i) ∧ Made w wc ([blkC XB (actA { pop := false, later := t, node := nd, fl := fl, id := id, len := len }) TAct] ++ paceL gs gn K V X (up N i y) (treeC L sh 4096 s' (k * 10000000 + 10000000))))
              case first =>
                by_cases hN0 : N i = 0
                · have hny0 : (N i : Int) = 0 := by omega
                  rw [hny0] at b0
                  obtain ⟨y, hy⟩ : ∃ y, T2 + 1 = y := ⟨_, rfl⟩
                  have hy2 : (T2 : Int) + 1 = (y : Int) := by omega
                  have hy3 : y ≤ 18446744073709551615 := by omega
                  have HYN : Hid (y = if N i = 0 then T2 + 1 else N i) := Lib.hid (by rw [if_pos hN0]; exact hy.symm)
                  have HX5 := Lib.hid (p_nset [blkC XB _ TAct] H5.out i y)
                  have hiKI : (i : Int) < (K : Int) := by omega
                  clear hy hN0
                  go_wp2_with fail
                  go_meet
                  exact ⟨y, HYN.out, HX5.out⟩
                · have q1 : ((N i : Int) == 0) = false := by simp; omega
                  have HYN : Hid (N i = if N i = 0 then T2 + 1 else N i) := Lib.hid (by rw [if_neg hN0])
                  have hup : up N i (N i) = N := funext fun j => by
                    unfold up
                    split
                    · rename_i h; rw [h]
                    · rfl
                  have HX5 : Hid (Made w w5 ([blkC XB (actA { pop := false, later := t, node := nd, fl := fl, id := id, len := len }) TAct] ++ paceL gs gn K V X (up N i (N i)) (treeC L sh 4096 s' (k * 10000000 + 10000000)))) := Lib.hid (by rw [hup]; exact H5.out)
                  have hiKI : (i : Int) < (K : Int) := by omega
                  clear hN0 hup
                  go_wp2_with fail
                  go_meet
                  exact ⟨N i, HYN.out, HX5.out⟩
              case rest =>
                as_aux_lemma =>
                  obtain ⟨y, hyN, hmx⟩ := hcut
                  obtain ⟨wX, rfl⟩ : ∃ x, x = wc := ⟨_, rfl⟩
                  have HYN := Lib.hid hyN
                  have HX := Lib.hid hmx
                  have hny : up N i y i = y := up_at ..
                  have hyb : y ≤ 1 + k * 1103806595072 + 1099511627776 := by have h1 := HNB.out i hiK; have h2 := HYN.out; split at h2 <;> omega
                  have hy1 : 1 ≤ y := by have h2 := HYN.out; split at h2 <;> omega
                  clear hyN hmx H5 b0 b1
                  obtain ⟨z, hz⟩ : ∃ z, y - 1 = z := ⟨_, rfl⟩
                  have HZ := Lib.hid hz
                  have hz2 : (y : Int) - 1 = (z : Int) := by omega
                  have hz3 : z ≤ 18446744073709551615 := by omega
                  have hz4 : IntKind.u64.wrap (z : Int) = (z : Int) := by rw [IntKind.wrap_u64]; omega
                  have hiKI : (i : Int) < (K : Int) := by omega
                  clear hz
                  go_upto_region 24 with fail
                  go_cut [] from 136 to 149 (fun wc => ∃ v' : Value, Made w wc ([blkC XB (actA { pop := false, later := t, node := nd, fl := fl, id := id, len := len }) TAct] ++ paceL gs gn K (up V i v') (up X i (X i ++ [z])) (up N i y) (treeC L sh 4096 s' (k * 10000000 + 10000000))))
                  case first =>
                    obtain ⟨vi, hvi⟩ : ∃ vi, V i = vi := ⟨_, rfl⟩
                    obtain ⟨hln, hne⟩ := p_lane [blkC XB (actA { pop := false, later := t, node := nd, fl := fl, id := id, len := len }) TAct] HX.out hiK
                    obtain ⟨c0, c1⟩ := p_soon [blkC XB (actA { pop := false, later := t, node := nd, fl := fl, id := id, len := len }) TAct] HX.out hiK
                    obtain ⟨b0, b1⟩ := p_next [blkC XB (actA { pop := false, later := t, node := nd, fl := fl, id := id, len := len }) TAct] HX.out hiK
                    rw [hny] at b0
                    rw [hvi] at hln c0
                    obtain ⟨av, cv, hvf⟩ := hln.form
                    obtain ⟨m0, hm0⟩ : ∃ m0, (X i).length = m0 := ⟨_, rfl⟩
                    rw [hm0] at hvf
                    subst hvf
                    have hm4 : (X i).length ≤ 65536 := by have := HXL.out i hiK; omega
                    have HLN := Lib.hid hln
                    have HVI := Lib.hid hvi
                    have HM4 := Lib.hid hm4
                    have a0 : (wX.alloc (.cells #[.int .u64 (z : Nat)] TU64)).cell? ⟨gs, i, none⟩ = some (.slice av m0 cv) := cell_old ((Upd.refl _ _).alloc _) c0
                    have a1 : (wX.alloc (.cells #[.int .u64 (z : Nat)] TU64)).cell? ⟨gn, i, none⟩ = some (.int .u64 (y : Nat)) := cell_old ((Upd.refl _ _).alloc _) b0
                    have ny0 : (wX.alloc (.cells #[.int .u64 (z : Nat)] TU64)).cell? ⟨wX.heap.size, 0, none⟩ = some (.int .u64 (z : Nat)) := new_cells wX #[.int .u64 (z : Nat)] _ 0 _ rfl
                    have ny1 : (wX.alloc (.cells #[.int .u64 (z : Nat)] TU64)).drew.cell? ⟨wX.heap.size, 0, none⟩ = some (.int .u64 (z : Nat)) := ny0
                    have ny2 : (wX.drew.alloc (.cells #[.int .u64 (z : Nat)] TU64)).cell? ⟨wX.heap.size, 0, none⟩ = some (.int .u64 (z : Nat)) := ny0
                    obtain ⟨i0, gi, gz0, gz1, gz2⟩ := info_parts infoU64
                    clear hln hne hvi hm0 hm4 HL HPC HNB HYN HGG HE HA HO HNL HS HF HGS HPAC HNOW HNW HZ e0 e1 e5 e6 e6' e7 e8 hK0 hK1 hi2 hd1 hd2 hd3 hT3 hT4 hT5 hT6 hkk hkk2 hkk3 hkk4 hU hl1 hl2 hyb
                    have HGN := Lib.hid (p_ne [blkC XB (actA { pop := false, later := t, node := nd, fl := fl, id := id, len := len }) TAct] HX.out)
                    have hS0 : wX.drew.cell? ⟨gn, i, none⟩ = some (.int .u64 (y : Nat)) ∧ wX.drew.cell? ⟨gn, i, none⟩ = some (.int .u64 (y : Nat)) := ⟨b0, b0⟩
                    refine wp_region_held_drew (S := fun w' => w'.cell? ⟨gn, i, none⟩ = some (.int .u64 (y : Nat)) ∧ w'.cell? ⟨gn, i, none⟩ = some (.int .u64 (y : Nat))) (by kernel_rfl) hS0 (fun hHeld => ?_)
                    refine wpAnyH_take (i := 0) (v := ?_) (by simp only [List.getElem?_toArray, List.getElem?_cons_zero, List.getElem?_cons_succ]; rfl) (by kernel_rfl) (by kernel_rfl) (by kernel_rfl) (by intro _ _ _ h; exact h) (Or.inl ⟨by rfl, ?_⟩) (by assumption) ?_
                    rotate_left 1
                    · intro w hSw; (try dsimp only at hSw); go_simp; try with_reducible rfl
                    try simp only [Act.put, List.setIfInBounds_toArray, List.set_cons_zero, List.set_cons_succ]
                    refine wpAnyH_take (i := 1) (v := ?_) (by simp only [List.getElem?_toArray, List.getElem?_cons_zero, List.getElem?_cons_succ]; rfl) (by kernel_rfl) (by kernel_rfl) (by kernel_rfl) (by intro _ _ _ h; exact h) (Or.inl ⟨by rfl, ?_⟩) (by assumption) ?_
                    rotate_left 1
                    · intro w hSw; (try dsimp only at hSw); go_simp; try with_reducible rfl
                    try simp only [Act.put, List.setIfInBounds_toArray, List.set_cons_zero, List.set_cons_succ]
                    refine wpAnyH_take (i := 2) (v := ?_) (by simp only [List.getElem?_toArray, List.getElem?_cons_zero, List.getElem?_cons_succ]; rfl) (by kernel_rfl) (by kernel_rfl) (by kernel_rfl) (by intro _ _ _ h; exact h) (Or.inl ⟨by rfl, ?_⟩) (by assumption) ?_
                    rotate_left 1
                    · intro w hSw; (try dsimp only at hSw); go_simp; try with_reducible rfl
                    try simp only [Act.put, List.setIfInBounds_toArray, List.set_cons_zero, List.set_cons_succ]
                    refine wpAnyH_take (i := 3) (v := ?_) (by simp only [List.getElem?_toArray, List.getElem?_cons_zero, List.getElem?_cons_succ]; rfl) (by kernel_rfl) (by kernel_rfl) (by kernel_rfl) (by intro _ _ _ h; exact h) (Or.inl ⟨by rfl, ?_⟩) (by assumption) ?_
                    rotate_left 1
                    · intro w hSw; (try dsimp only at hSw); go_simp; try with_reducible rfl
                    try simp only [Act.put, List.setIfInBounds_toArray, List.set_cons_zero, List.set_cons_succ]
                    refine wpAnyH_take (i := 4) (v := ?_) (by simp only [List.getElem?_toArray, List.getElem?_cons_zero, List.getElem?_cons_succ]; rfl) (by kernel_rfl) (by kernel_rfl) (by kernel_rfl) (by intro _ _ _ h; exact h) (Or.inl ⟨by rfl, ?_⟩) (by assumption) ?_
                    rotate_left 1
                    · intro w hSw; (try dsimp only at hSw); go_simp; try with_reducible rfl
                    try simp only [Act.put, List.setIfInBounds_toArray, List.set_cons_zero, List.set_cons_succ]
                    refine wpAnyH_take (i := 6) (v := ?_) (by simp only [List.getElem?_toArray, List.getElem?_cons_zero, List.getElem?_cons_succ]; rfl) (by kernel_rfl) (by kernel_rfl) (by kernel_rfl) (by intro _ _ _ h; exact h) (Or.inl ⟨by rfl, ?_⟩) (by assumption) ?_
                    rotate_left 1
                    · intro w hSw; (try dsimp only at hSw); go_simp; try with_reducible rfl
                    try simp only [Act.put, List.setIfInBounds_toArray, List.set_cons_zero, List.set_cons_succ]
                    refine wpAnyH_take (i := 7) (v := ?_) (by simp only [List.getElem?_toArray, List.getElem?_cons_zero, List.getElem?_cons_succ]; rfl) (by kernel_rfl) (by kernel_rfl) (by kernel_rfl) (by intro _ _ _ h; exact h) (Or.inl ⟨by rfl, ?_⟩) (by assumption) ?_
                    rotate_left 1
                    · intro w hSw; (try dsimp only at hSw); go_simp; try with_reducible rfl
                    try simp only [Act.put, List.setIfInBounds_toArray, List.set_cons_zero, List.set_cons_succ]
                    refine wpAnyH_take (i := 8) (v := ?_) (by simp only [List.getElem?_toArray, List.getElem?_cons_zero, List.getElem?_cons_succ]; rfl) (by kernel_rfl) (by kernel_rfl) (by kernel_rfl) (by intro _ _ _ h; exact h) (Or.inl ⟨by rfl, ?_⟩) (by assumption) ?_
                    rotate_left 1
                    · intro w hSw; (try dsimp only at hSw); go_simp; try with_reducible rfl
                    try simp only [Act.put, List.setIfInBounds_toArray, List.set_cons_zero, List.set_cons_succ]
                    refine wpAnyH_take (i := 9) (v := ?_) (by simp only [List.getElem?_toArray, List.getElem?_cons_zero, List.getElem?_cons_succ]; rfl) (by kernel_rfl) (by kernel_rfl) (by kernel_rfl) (by intro _ _ _ h; exact h) (Or.inl ⟨by rfl, ?_⟩) (by assumption) ?_
                    rotate_left 1
                    · intro w hSw; (try dsimp only at hSw); go_simp; try with_reducible rfl
                    try simp only [Act.put, List.setIfInBounds_toArray, List.set_cons_zero, List.set_cons_succ]
                    refine wpAnyH_take (i := 10) (v := ?_) (by simp only [List.getElem?_toArray, List.getElem?_cons_zero, List.getElem?_cons_succ]; rfl) (by kernel_rfl) (by kernel_rfl) (by kernel_rfl) (by intro _ _ _ h; exact h) (Or.inl ⟨by rfl, ?_⟩) (by assumption) ?_
                    rotate_left 1
                    · intro w hSw; (try dsimp only at hSw); go_simp; try with_reducible rfl
                    try simp only [Act.put, List.setIfInBounds_toArray, List.set_cons_zero, List.set_cons_succ]
                    refine wpAnyH_ready (rs := [5, 11]) (by kernel_rfl) (by simp) ?_
                    refine AllReadyH.cons (by simp only [List.getElem?_toArray, List.getElem?_cons_zero, List.getElem?_cons_succ]; rfl) (fun K hK => ?_) (AllReadyH.cons (by simp only [List.getElem?_toArray, List.getElem?_cons_zero, List.getElem?_cons_succ]; rfl) (fun K hK => ?_) AllReadyH.nil)
                    focus
                      go_simp
                      refine hK.out _ _ (by (try dsimp only); assumption) (fun hHeld => ?_)
                      clear hK K
                      refine wpAnyH_ready (rs := [11]) (by kernel_rfl) (by simp) ?_
                      refine AllReadyH.cons (by simp only [List.getElem?_toArray, List.getElem?_cons_zero, List.getElem?_cons_succ]; rfl) (fun K hK => ?_) AllReadyH.nil
                      go_simp
                      refine hK.out _ _ (by (try dsimp only); exact keepA2 (by assumption)) (fun hHeld => ?_)
                      clear hK K
                    rotate_left 1
                    focus
                      go_simp
                      refine hK.out _ _ (by (try dsimp only); exact keepA2 (by assumption)) (fun hHeld => ?_)
                      clear hK K
                      refine wpAnyH_ready (rs := [5]) (by kernel_rfl) (by simp) ?_
                      refine AllReadyH.cons (by simp only [List.getElem?_toArray, List.getElem?_cons_zero, List.getElem?_cons_succ]; rfl) (fun K hK => ?_) AllReadyH.nil
                      go_simp
                      refine hK.out _ _ (by (try dsimp only); assumption) (fun hHeld => ?_)
                      clear hK K
                    all_goals
                      refine wpAnyH_ready (rs := [12]) (by kernel_rfl) (by simp) ?_
                      refine AllReadyH.cons (by simp only [List.getElem?_toArray, List.getElem?_cons_zero, List.getElem?_cons_succ]; rfl) (fun K hK => ?_) AllReadyH.nil
                      (refine LU.step_lane rfl _ _ 33 rfl TU64 i0 (.int .u64 0) Tryd.underlying33 gi gz0 gz1 gz2 rfl (.slice av m0 cv) (X i) rfl (HLN.out.upd (S := Nowhere) (by repeat (first | with_reducible exact Upd.refl _ _ | with_reducible refine Upd.drew ?_ | with_reducible refine Upd.drewN ?_ _ | with_reducible refine Upd.alloc ?_ _)) (fun _ _ h => h)) wX.heap.size 1 z rfl (by with_reducible first | exact ny0 | exact ny1 | exact ny2) HM4.out ?_; intro a6 c6 w6 hl6 hu6 hn6; have H6 := Lib.hid (p_push [blkC XB (actA { pop := false, later := t, node := nd, fl := fl, id := id, len := len }) TAct] HX.out hiK HVI.out (by repeat (first | with_reducible exact Upd.refl _ _ | with_reducible refine Upd.drew ?_ | with_reducible refine Upd.drewN ?_ _ | with_reducible refine Upd.alloc ?_ _)) hl6 hu6 hn6); obtain ⟨y0, y1⟩ := H6.out.2; clear hl6 hu6 hn6; have hS6 : w6.cell? ⟨gn, i, none⟩ = some (.int .u64 (y : Nat)) ∧ w6.cell? ⟨gn, i, none⟩ = some (.int .u64 (y : Nat)) := keepB2 (by have h9 := (p_next [blkC XB (actA { pop := false, later := t, node := nd, fl := fl, id := id, len := len }) TAct] H6.out.1 hiK).1; rw [hny] at h9; exact h9) HGN.out)
                      refine hK.out _ _ (by (try dsimp only); assumption) (fun hHeld => ?_)
                      clear hK K
                      refine wpAnyH_take (i := 13) (v := ?_) (by simp only [List.getElem?_toArray, List.getElem?_cons_zero, List.getElem?_cons_succ]; rfl) (by kernel_rfl) (by kernel_rfl) (by kernel_rfl) (by intro _ _ _ h; exact h) (Or.inl ⟨by rfl, ?_⟩) (by assumption) ?_
                      rotate_left 1
                      · intro w hSw; (try dsimp only at hSw); go_simp; try with_reducible rfl
                      try simp only [Act.put, List.setIfInBounds_toArray, List.set_cons_zero, List.set_cons_succ]
                      refine wpAnyH_ready (rs := [14]) (by kernel_rfl) (by simp) ?_
                      refine AllReadyH.cons (by simp only [List.getElem?_toArray, List.getElem?_cons_zero, List.getElem?_cons_succ]; rfl) (fun K hK => ?_) AllReadyH.nil
                      go_simp
                      refine hK.out _ _ (by (try dsimp only); exact keepS2 (by assumption) HGN.out) (fun hHeld => ?_)
                      clear hK K
                      refine wpAnyH_done (by kernel_rfl) ?_ _
                    all_goals
                      go_wp2_with fail
                      go_meet
                      exact ⟨_, H6.out.1⟩
                  case rest =>
                    as_aux_lemma =>
                      obtain ⟨v', hm9⟩ := hcut
                      obtain ⟨w9, rfl⟩ : ∃ x, x = wc := ⟨_, rfl⟩
                      have H9 := Lib.hid hm9
                      obtain ⟨b0, b1⟩ := p_next [blkC XB (actA { pop := false, later := t, node := nd, fl := fl, id := id, len := len }) TAct] hm9 hiK
                      rw [hny] at b0
                      obtain ⟨x1, x2, x3, x4, x5⟩ := x_cells hm9
                      simp only at x5
                      obtain ⟨GL, hGL⟩ : ∃ GL, gap * len = GL := ⟨_, rfl⟩
                      have hGL1 : GL ≤ 4294901760 := by rw [← hGL]; exact Nat.le_trans (Nat.mul_le_mul hgp hl2) (by decide)
                      have hGL2 : (gap : Int) * (len : Int) = (GL : Int) := by rw [← hGL]; rfl
                      have hGL3 : IntKind.u64.wrap (GL : Int) = (GL : Int) := by rw [IntKind.wrap_u64]; omega
                      obtain ⟨y2, hy2⟩ : ∃ y2, y + GL = y2 := ⟨_, rfl⟩
                      have hy3 : (y : Int) + (GL : Int) = (y2 : Int) := by omega
                      have hyk : y2 ≤ 1 + (k + 1) * 1103806595072 := by omega
                      have HYK := Lib.hid hyk
                      have hy4 : y2 ≤ 1000000000000000 := by omega
                      have hy5 : IntKind.u64.wrap (y2 : Int) = (y2 : Int) := by rw [IntKind.wrap_u64]; omega
                      have HGL := Lib.hid hGL
                      have HY2 := Lib.hid hy2
                      clear hm9 HX x1 x2 x3 x4 hGL hy2 hyk
                      go_upto_region 25 with fail
                      refine wp_region_tail 13 (by kernel_rfl) (by kernel_rfl) ?_
                      simp only [List.take_succ_cons, List.take_zero, List.drop_succ_cons, List.drop_zero]
                      repeat (go_big_quiet_step (fail))
                      refine wpQuiet_nil ?_
                      rintro _ ⟨nq, rfl⟩
                      go_wp2
                      refine Stage.out ?_
                      have hset := p_nset [blkC XB (actA { pop := false, later := t, node := nd, fl := fl, id := id, len := len }) TAct] (H9.out.old ((Upd.refl Nowhere w9).drewN nq)) i y2
                      have hupn : up (up N i y) i y2 = up N i y2 := funext fun j => by unfold up; split <;> rfl
                      rw [hupn] at hset
                      have H10 := Lib.hid hset.drop
                      have hP : Pac sh K s' (up X i (X i ++ [z])) (up N i y2) := by
                        have h9 := HPC.out y HYN.out (by have h8 := HGL.out; omega)
                        rw [HZ.out, HGL.out, HY2.out] at h9
                        exact h9
                      have HP := Lib.hid hP
                      have hNb2 : ∀ j, j < K → up N i y2 j ≤ 1 + (k + 1) * 1103806595072 := fun j hj => by
                        unfold up
                        split
                        · exact HYK.out
                        · exact nb_up (HNB.out j hj)
                      have hXl2 : ∀ j, j < K → (up X i (X i ++ [z]) j).length ≤ k + 1 := fun j hj => by
                        unfold up
                        split
                        · have h9 := HXL.out i hiK
                          rw [List.length_append]
                          show (X i).length + 1 ≤ k + 1
                          omega
                        · exact len_up (HXL.out j hj)
                      have HNB2 := Lib.hid hNb2
                      have HXL2 := Lib.hid hXl2
                      clear hset hupn hP hNb2 hXl2 b0 b1 x5 H9
                      go_wp2_with fail
                      go_roundw
                      case rel => exact ⟨k + 1, T2, by first | rfl | go_num, rfl, by omega, hT4, ⟨_, _, _, s', HP.out, HNW.out, by rw [hkk2]; exact H10.out, HNB2.out, HXL2.out⟩⟩
                      case measure => simp [intOf]; omega
            · have q0 : ((v : Int) == 0) = false := by simp; omega
              have hpc : Pac sh K s' X N := HOR.out.elim (fun h => h.2) (fun h => absurd h.1 hv0)
              have HPC := Lib.hid hpc
              have H6 := Lib.hid H5.out.drop
              clear HOR hv0 hpc H5
              go_wp2_with fail
              go_roundw
              case rel => exact ⟨k + 1, T2, by first | rfl | go_num, rfl, by omega, hT4, ⟨V, X, N, s', HPC.out, HNW.out, by rw [hkk2]; exact H6.out, fun i hi => nb_up (HNB.out i hi), fun i hi => len_up (HXL.out i hi)⟩⟩
              case measure => simp [intOf]; omega
        · obtain rfl : k = n := by omega
          have hI : ¬ (k : Int) < k := by omega
          have hlv := Lib.hid (HL _ hM.upd).out
          have hu := hM.upd
          clear hM HL hpac hnow hNb hXl
          go_wp2_with fail
          refine hlv.out.mono ?_
          rintro e w9 ⟨rfl, u9⟩
          go_wp2_with fail
          go_ret
          exact ⟨rfl, hu.trans u9 (fun _ _ h => h)⟩
end Go.Proofs.YtllfloapiliheaaDoor.Tree
namespace Go.Proofs.YtllfloapiliheaaDoor.Tree
open Go.RowKit Go.Proofs
theorem paces_law (v : Value) (li : List Int) (g : Nat) (hg : g ≤ 65535) (v2 : Value) (l : List Act) (hok : ∀ a ∈ l, a.later ≤ 18446744073709551615 ∧ a.fl ≤ 4294967295 ∧ a.id ≤ 4294967295 ∧ a.len ≤ 18446744073709551615) (w : World) (hr : RowAt w v (li.map (.int .u32))) (hwf : ∀ n ∈ li, (Lit.int .u32 n).wf = true) (hv2 : RowsAt w v2 l.length (l.flatMap act)) (E : Env w) :
    Calls Tryd.prog 5 #[v, .int .u16 g, v2] w fun e w' => e = .returned (.bool true) ∧ Upd Nowhere w w' := by
  obtain ⟨ad, c, rfl, hw, hb⟩ := wts_of hr hwf
  obtain ⟨ad2, c2, rfl, ha⟩ := acts_of hv2
  have hok2 : ∀ a ∈ l, a.Ok := fun a h => ⟨(hok a h).1, Nat.lt_succ_of_le (hok a h).2.1, Nat.lt_succ_of_le (hok a h).2.2.1, (hok a h).2.2.2⟩
  by_cases h : (li.map Int.toNat).length < 1 ∨ 5 < (li.map Int.toNat).length ∨ 150 < l.length
  · exact paces_big ad _ c g ad2 l.length c2 w E h
  · exact paces_walk ad c _ g hg ad2 c2 l w E hw hb (by omega) (by omega) (by omega) ha hok2
end Go.Proofs.YtllfloapiliheaaDoor.Tree
