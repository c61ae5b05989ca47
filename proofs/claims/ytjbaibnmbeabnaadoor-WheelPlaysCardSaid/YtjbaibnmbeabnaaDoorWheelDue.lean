/- wheel: Due. -/
import Derived.Test.YtjbaibnmbeabnaaDoorWheelHas
import Derived.Test.YtjbaibnmbeabnaaDoorWheelSrt
import Derived.Shelf.SlSortCmp.NoneTotal
import Derived.Deep.CutBlock
import Derived.Deep.DeepCutAuto
namespace Go.Proofs.YtjbaibnmbeabnaaDoor.Wheel
open Go.RowKit Go.Proofs BigFrame Heap Go.Sort
set_option maxHeartbeats 4000000
set_option maxRecDepth 1000000
abbrev TI : TypeId := 3
theorem infoI : (Tryd.prog.info? TI).map (fun i => (i.zero, i.size, i.bytes)) = some (some (.int .i64 0), 1, 8) := by kernel_rfl
/-- What is due, and what is left. -/
def dueOf (now : Nat) (s : List En) : List En := s.filter fun e => decide (e.1 ≤ now)
def leftOf (now : Nat) (s : List En) : List En := s.filter fun e => decide (now < e.1)
theorem due_left (now : Nat) (s : List En) : (dueOf now s).length + (leftOf now s).length = s.length := by
  induction s with
  | nil => rfl
  | cons a r ih =>
    unfold dueOf leftOf at ih ⊢
    by_cases h : a.1 ≤ now
    · rw [List.filter_cons_of_pos (by simpa using h), List.filter_cons_of_neg (by simp; omega)]; simp only [List.length_cons]; omega
    · rw [List.filter_cons_of_neg (by simpa using h), List.filter_cons_of_pos (by simp; omega)]; simp only [List.length_cons]; omega
/-- What is handed out. -/
def outs (l : List En) : List Value := l.map fun e => .int .i64 e.2.2
theorem WIn.re2 {A A' : Nat → Prop} {w0 w : World} {b now came room n : Nat} {vs : Nat → Value} {qs : Nat → List En} {us : Nat → Nat} (h : WIn TW TE A w0 w b now came room n vs qs us) (hA : ∀ k, A' k → A k ∨ ¬ Own b vs k) : WIn TW TE A' w0 w b now came room n vs qs us :=
  ⟨h.cur, h.row, h.ap, h.nb, fun k hk => ⟨(h.far k hk).1, fun h1 => (hA k h1).elim (h.far k hk).2 (fun h2 => h2 hk)⟩⟩
theorem upd_set_comm {S : Nat → Prop} {w w' : World} (hu : Upd S w w') (b i : Nat) (v : Value) : Upd S (w.setCell ⟨b, i, none⟩ v) (w'.setCell ⟨b, i, none⟩ v) := by
  have e1 : (w.setCell ⟨b, i, none⟩ v).heap.size = w.heap.size := by simp [World.setCell]
  have e2 : (w'.setCell ⟨b, i, none⟩ v).heap.size = w'.heap.size := by simp [World.setCell]
  refine ⟨hu.os, hu.tape, hu.output, by rw [e1, e2]; exact hu.size, fun k hk hs => ?_⟩
  rw [e1] at hk
  have h1 := hu.block k hk hs
  simp only [World.setCell, Array.getElem?_modify]
  rw [h1]
theorem St.late0 {now : Nat} {qs : Nat → List En} {us : Nat → Nat} (h : St now qs us) : St now (put qs 715 []) us :=
  h.sub (fun o => by
    by_cases e : o = 715
    · subst e; right; exact put_at _ _ _
    · left; exact put_ne _ _ e) (fun l i hl hi => by rw [put_ne _ _ (by omega)]; exact h.bit l i hl hi) h.ub
theorem sort_late {w : World} {v : Value} {l d : List En} (h : w.ownsRow 0 TE 3 v l.length (es l)) (hl : l.length ≤ 999999) (hp : d.Perm l) (hd : d.Pairwise (fun a b => ahd a b = true)) :
    Calls Tryd.prog 54 #[v, .func (.func 55) #[] #[]] w fun e w' => e = .returned (.tuple #[]) ∧ (∀ (j : Nat) (e : En), d[j]? = some e → ∃ g c, v = .slice (some ⟨g, 0, none⟩) l.length c ∧ w'.cell? ⟨g, j * 3, none⟩ = some (.int .u64 (e.1 : Nat)) ∧ w'.cell? ⟨g, j * 3 + 1, none⟩ = some (.int .u64 (e.2.1 : Nat)) ∧ w'.cell? ⟨g, j * 3 + 2, none⟩ = some (.int .i64 e.2.2)) ∧ Upd (fun k => v.ownBlock = some k) w w' := by
  rcases id h.2 with ⟨rfl, h0⟩ | ⟨g, c, cur, rfl, _⟩
  · have hcon := AnyF.slices_SortFunc_none Tryd.sortW none 0 (.func (.func 55) #[] #[]) w
    change Calls Tryd.prog 54 _ _ _ at hcon
    refine hcon.mono ?_
    rintro e w' ⟨rfl, rfl⟩
    refine ⟨rfl, fun j e he => ?_, Upd.refl _ _⟩
    have h1 := get_lt he
    rw [hp.length_eq] at h1
    omega
  · have hlt := (h.lt g rfl).2
    refine (sort_any (c := c) (esK h) hlt hl hp hd).mono ?_
    rintro e w' ⟨rfl, h1, h2⟩
    refine ⟨rfl, fun j e he => ?_, h2.mono (fun k _ hk => by rw [hk]; rfl)⟩
    obtain ⟨k0, k1, k2⟩ := holds_at h1 he
    exact ⟨g, c, rfl, k0, k1, k2⟩
theorem due_any {A : Nat → Prop} {w0 w : World} {b now came room : Nat} {s : List En} (h : HasW A w0 w b now came room s) (hA : ∀ k, A k → k < w.heap.size) (hT : Tab w) (hG : Tryd.tz64_ren.g 1 < w0.heap.size) (now' : Nat) (hn' : now' ≤ 18446744073709551615) :
    Calls Tryd.prog 22 #[.pointer (some ⟨b, 0, none⟩), .int .u64 now'] w fun e w' => ∃ v, e = .returned v ∧ w'.ownsRow w.heap.size TI 1 v (dueOf (max now now') s).length (outs (dueOf (max now now') s)) ∧ HasW A w0 w' b (max now now') came room (leftOf (max now now') s) ∧ Upd (Free A w0) w w' := by
  obtain ⟨i0, hi, hz0, hz1, hz2⟩ := info_parts infoI
  have hbf := h.blk
  obtain ⟨vs, qs, us, h1, hs, hm, h4, h5, h6⟩ := h
  have hall : (all qs).length ≤ 999999 := by have := hm.len; omega
  obtain ⟨n, hn⟩ : ∃ n, s.length = n := ⟨_, rfl⟩
  rw [hn] at h1
  obtain ⟨nw, hnw⟩ : ∃ x, max now now' = x := ⟨_, rfl⟩
  rw [hnw]
  obtain ⟨c0, _, _, _, z0⟩ := h1.at_nums
  have H1 := Lib.hid h1
  have HS := Lib.hid hs
  have HM := Lib.hid hm
  have HA := Lib.hid hA
  have HT := Lib.hid hT
  have HALL := Lib.hid hall
  have HN := Lib.hid hn
  have hbw := h1.lt
  have hlow0 := h1.low
  clear h1 hs hm hA hT hall hn
  go_enter Tryd.func22, Tryd.ntmps22
  go_upto_if 18 with fail
  go_cut [5, 7] from 18 to 35 (fun _ _ wc => ∃ (vs1 : Nat → Value) (qs1 : Nat → List En) (us1 : Nat → Nat), WIn TW TE A w0 wc b nw came room n vs1 qs1 us1 ∧ St nw qs1 us1 ∧ (all qs1).Perm (all qs) ∧ Upd (Free A w0) w wc)
  case first =>
    by_cases hlt : now < now'
    · have d1 : decide (now < now') = true := decide_eq_true hlt
      obtain rfl : now' = nw := by omega
      have HPS := Lib.hid (pass_any H1.out HS.out HA.out now' hlt hn' HALL.out HT.out (fun e => by omega))
      go_wp2_with fail
      refine HPS.out.mono ?_
      rintro e w1 ⟨v, P, vs1, qs1, us1, rfl, htk, hps⟩
      have hst := HS.out.pass htk.st hlt hn' htk.sub hps
      have hbig : ∀ e ∈ P, e.1 ≤ 18446744073709551615 := fun e he => by
        obtain ⟨o, ho, heo⟩ := mem_all.1 (htk.perm.mem_iff.1 (List.mem_append_left _ he))
        exact HS.out.big o ho e heo
      have hPb : P.length ≤ 999999 := by have h9 := htk.perm.length_eq; rw [List.length_append] at h9; have := HALL.out; omega
      obtain ⟨N, hN⟩ : ∃ N, P.length = N := ⟨_, rfl⟩
      rw [hN] at hPb
      have hout := htk.out
      rw [hN] at hout
      obtain ⟨ad, c, hvf⟩ := form0 (ownsRow_base hout (Nat.zero_le _))
      obtain ⟨k0, _, _, _, y0⟩ := htk.mem.at_nums
      have hset : Upd (fun k => k = b) w1 (w1.setCell ⟨b, 716, none⟩ (.int .u64 (now' : Nat))) := upd_at _ _ _ _
      have hnp : ∀ k, v.ownBlock = some k → w.heap.size ≤ k := fun k hk => (hout.lt k hk).1
      have hm0 := (htk.mem.setNow now').re2 (A' := fun k => A k ∨ v.ownBlock = some k) (fun k hk => hk.elim .inl (fun h9 => .inr (fun ho => by
        have h8 := hnp k h9
        rcases ho with rfl | ⟨o, ho, hk2⟩
        · omega
        · have := htk.low o ho k hk2; omega)))
      have hrow0 := ownsRow_upd hout hset (fun k hk e => by have := hnp k hk; omega)
      have HM0 := Lib.hid hm0
      have HROW0 := Lib.hid hrow0
      have HST := Lib.hid hst
      have HPM := Lib.hid htk.perm
      have HBIG := Lib.hid hbig
      have HNN := Lib.hid hN
      have HNP := Lib.hid hnp
      have HVF := Lib.hid hvf
      have HU0 : Hid (Upd (Free A w0) w (w1.setCell ⟨b, 716, none⟩ (.int .u64 (now' : Nat)))) := Lib.hid ((htk.upd.trans hset (fun _ _ h => h)).mono (fun k _ hk => by rw [hk]; exact hbf))
      have hw1 : w.heap.size ≤ w1.heap.size := htk.upd.size
      clear htk hps hst hbig hN hout hset hnp hm0 hrow0 HPS
      subst hvf
      go_wp2_with fail
      have hsz1 : (w1.setCell ⟨b, 716, none⟩ (.int .u64 (now' : Nat))).heap.size = w1.heap.size := by simp [World.setCell]
      obtain ⟨w2, hw2⟩ : ∃ w2, w1.setCell ⟨b, 716, none⟩ (.int .u64 (now' : Nat)) = w2 := ⟨_, rfl⟩
      rw [hw2] at HM0 HROW0 HU0 hsz1 ⊢
      have hw2s : w.heap.size ≤ w2.heap.size := by omega
      clear hw2 hsz1 k0 y0
      go_loopw [28] (fun i wr => ∃ (k : Nat) (vs' : Nat → Value) (qs' : Nat → List En) (us' : Nat → Nat), k ≤ N ∧ i = .int .i64 k ∧ WIn TW TE (fun k => A k ∨ (Value.slice ad N c).ownBlock = some k) w0 wr b now' came room n vs' qs' us' ∧ St now' qs' us' ∧ (P.drop k ++ all qs').Perm (all qs) ∧ wr.ownsRow w.heap.size TE 3 (.slice ad N c) N (es P) ∧ Upd (Free A w0) w wr) (fun i _ => N - (intOf i).toNat)
      case atStart => exact ⟨0, vs1, qs1, us1, by omega, rfl, HM0.out, HST.out, HPM.out, HROW0.out, HU0.out⟩
      case round =>
        clear HM0 HROW0 HST HPM HU0
        obtain ⟨k, vs2, qs2, us2, hk, rfl, hm2, hs2, hp2, hr2, hu2⟩ := hrel
        obtain ⟨wB, rfl⟩ : ∃ x, x = wr := ⟨_, rfl⟩
        by_cases hlt2 : k < N
        · have hI : (k : Int) < N := by omega
          obtain ⟨e, he⟩ : ∃ e, P[k]? = some e := ⟨P[k]'(by rw [HNN.out]; exact hlt2), by simp⟩
          have hr0 : wB.ownsRow 0 TE 3 (.slice ad N c) P.length (es P) := by rw [HNN.out]; exact ownsRow_base hr2 (Nat.zero_le _)
          have hr0' : wB.ownsRow 0 TE 3 (.slice ad N c) P.length (es P) := hr0
          obtain ⟨g, c', hv, k0, k1, k2⟩ := row_at3 hr0' he
          obtain ⟨ead, rfl⟩ : ad = some ⟨g, 0, none⟩ ∧ c = c' := by injection hv with a b c; exact ⟨a, c⟩
          subst ead
          have hdr : P.drop k = e :: P.drop (k + 1) := by
            rw [List.drop_eq_getElem_cons (by rw [HNN.out]; exact hlt2)]
            congr 1
            have := List.getElem?_eq_getElem (l := P) (i := k) (by rw [HNN.out]; exact hlt2)
            rw [this] at he; exact Option.some.inj he
          have hle2 : (all qs2).length ≤ 999999 := by
            have h9 := hp2.length_eq
            rw [List.length_append] at h9
            have := HALL.out
            omega
          have hal : Upd Nowhere wB (wB.alloc (.cells #[.int .u64 (e.1 : Nat), .int .u64 (e.2.1 : Nat), .int .i64 e.2.2] TE)) := (Upd.refl _ _).alloc _
          have hAA : ∀ q, (A q ∨ (Value.slice (some ⟨g, 0, none⟩) N c).ownBlock = some q) → q < (wB.alloc (.cells #[.int .u64 (e.1 : Nat), .int .u64 (e.2.1 : Nat), .int .i64 e.2.2] TE)).heap.size := fun q hq => Nat.lt_of_lt_of_le (by
            rcases hq with hq | hq
            · exact Nat.lt_of_lt_of_le (HA.out q hq) hu2.size
            · exact (hr2.lt q hq).2) hal.size
          have HLY := Lib.hid (lay_any (hm2.old hal) hs2 hAA e hn' (HBIG.out e (List.mem_of_getElem? he)) hle2)
          have HDR := Lib.hid hdr
          have HP2 := Lib.hid hp2
          have HR2 := Lib.hid (ownsRow_upd hr2 hal (fun _ _ h => h))
          have HU2 := Lib.hid (hu2.trans hal (fun _ _ h => h.elim))
          clear hr0 hr0' hv hdr hm2 hs2 hp2 hr2 hu2 he hal hAA hle2
          obtain ⟨e0, e1, e2⟩ := e
          go_wp2_with fail
          refine HLY.out.mono ?_
          rintro x w3 ⟨rfl, ⟨vs3, qs3, us3, hm3, hs3, hp3⟩, hu3⟩
          have HM3 := Lib.hid hm3
          have HS3 := Lib.hid hs3
          have HP3 : Hid ((P.drop (k + 1) ++ all qs3).Perm (all qs)) := Lib.hid (by
            have h9 := HP2.out
            rw [HDR.out] at h9
            refine ((hp3.append_left _).trans ?_).trans h9
            exact List.perm_middle)
          have HR3 := Lib.hid (ownsRow_upd HR2.out hu3 (fun q hq e => e.2 (.inr hq)))
          have HU3 := Lib.hid (HU2.out.trans hu3 (fun q _ hq => ⟨hq.1, fun h9 => hq.2 (.inl h9)⟩))
          clear hm3 hs3 hp3 hu3 HLY
          go_wp2_with fail
          go_roundw
          case rel => exact ⟨k + 1, vs3, qs3, us3, by omega, by go_num, HM3.out, HS3.out, HP3.out, HR3.out, HU3.out⟩
          case measure => simp [intOf]; omega
        · have hI : ¬ (k : Int) < N := by omega
          obtain rfl : k = N := by omega
          have hdr : P.drop k = [] := List.drop_eq_nil_of_le (by rw [HNN.out]; exact Nat.le_refl _)
          rw [hdr, List.nil_append] at hp2
          have HM2 := Lib.hid (hm2.re (A' := A) (fun q hq => .inl (.inl hq)))
          have HS2 := Lib.hid hs2
          have HP2 := Lib.hid hp2
          have HU2 := Lib.hid hu2
          clear hm2 hs2 hp2 hu2 hr2 hdr
          go_wp2_with fail
          go_meet
          exact ⟨vs2, qs2, us2, HM2.out, HS2.out, HP2.out, HU2.out⟩
    · have d1 : decide (now < now') = false := decide_eq_false hlt
      obtain rfl : now = nw := by omega
      go_wp2_with fail
      go_meet
      exact ⟨vs, qs, us, H1.out, HS.out, List.Perm.refl _, Upd.refl _ _⟩
  case rest =>
    obtain ⟨vs1, qs1, us1, hm1, hs1, hp1, hu1⟩ := hcut
    obtain ⟨wS, rfl⟩ : ∃ x, x = wc := ⟨_, rfl⟩
    have hsp : s.Perm (all qs1) := HM.out.perm.trans hp1.symm
    obtain ⟨hd1, hd2⟩ := hs1.lies.due hsp
    have hdo : (dueOf nw s).Pairwise (fun a b => ahd a b = true) := HM.out.ord.filter _
    have hlo : (leftOf nw s).Pairwise (fun a b => ahd a b = true) := HM.out.ord.filter _
    have hl9 : (qs1 715).length ≤ 999999 := Nat.le_trans (len_all isRow_late) (by rw [hp1.length_eq]; exact HALL.out)
    obtain ⟨v1, hv1⟩ : ∃ v, vs1 715 = v := ⟨_, rfl⟩
    have hro := hm1.row 715 isRow_late
    rw [hv1] at hro
    have HSRT := Lib.hid (sort_late hro hl9 hd1 hdo)
    obtain ⟨N, hN⟩ : ∃ N, (dueOf nw s).length = N := ⟨_, rfl⟩
    have hqN : (qs1 715).length = N := by rw [← hN]; exact hd1.length_eq.symm
    rw [hqN] at hro HSRT hl9
    obtain ⟨ad1, cc1, hvf⟩ := form0 hro
    obtain ⟨n2, hn2⟩ : ∃ x, (leftOf nw s).length = x := ⟨_, rfl⟩
    have hnn := due_left nw s
    rw [hN, hn2, HN.out] at hnn
    obtain ⟨c1, z1⟩ := hm1.at_row isRow_late
    rw [hv1] at c1
    have hnb : v1.ownBlock ≠ some b := by rw [← hv1]; exact hm1.nb 715 isRow_late
    have hfar : ∀ k, v1.ownBlock = some k → Free A w0 k := fun k hk => hm1.far k (.inr ⟨715, isRow_late, by rw [hv1]; exact hk⟩)
    have hbS := hm1.lt
    have hsS : w.heap.size ≤ wS.heap.size := hu1.size
    have HM1 := Lib.hid hm1
    have HS1 := Lib.hid hs1
    have HU1 := Lib.hid hu1
    have HD2 := Lib.hid hd2
    have HLO := Lib.hid hlo
    have HNN := Lib.hid hN
    have HN2 := Lib.hid hn2
    have HV1 := Lib.hid hv1
    have HNB := Lib.hid hnb
    have HFAR := Lib.hid hfar
    have hn4 : n ≤ 4096 := by rw [← HN.out]; omega
    have en : IntKind.i64.wrap ((n : Int) - N) = (n2 : Int) := by rw [IntKind.wrap_i64]; omega
    clear hm1 hs1 hp1 hu1 hsp hd1 hd2 hdo hlo hro hN hqN hn2 hv1 hnb hfar hnn
    subst hvf
    go_wp2_with fail
    refine HSRT.out.mono ?_
    rintro e w2 ⟨rfl, hcel, hu2⟩
    have HCEL := Lib.hid hcel
    have HU2 := Lib.hid hu2
    have c2 : w2.cell? ⟨b, 715, none⟩ = some (.slice ad1 N cc1) := by rw [hu2.cell _ hbS HNB.out]; exact c1
    have hs2 : wS.heap.size ≤ w2.heap.size := hu2.size
    clear hcel hu2 c1 z1 HSRT
    go_wp2_with fail
    go_loopw [8, 46] (fun ov i wr => ∃ (k : Nat) (adq : Option Addr) (cq : Nat), k ≤ N ∧ i = .int .i64 k ∧ ov = .slice adq k cq ∧ wr.ownsRow w2.heap.size TI 1 ov k (outs ((dueOf nw s).take k)) ∧ Upd Nowhere w2 wr) (fun _ i _ => N - (intOf i).toNat)
    case atStart => exact ⟨0, none, 0, by omega, rfl, rfl, ownsRow_nil _ _ _ _, Upd.refl _ _⟩
    case round =>
      obtain ⟨k, adq, cq, hk, rfl, rfl, hown, hu⟩ := hrel
      obtain ⟨wB, rfl⟩ : ∃ x, x = wr := ⟨_, rfl⟩
      have HO := Lib.hid hown
      have HU := Lib.hid hu
      have hsz := hu.size
      clear hown hu
      by_cases hlt2 : k < N
      · have hI : (k : Int) < N := by omega
        obtain ⟨e, he⟩ : ∃ e, (dueOf nw s)[k]? = some e := ⟨(dueOf nw s)[k]'(by rw [HNN.out]; exact hlt2), by simp⟩
        obtain ⟨g, c', hv, j0, j1, j2⟩ := HCEL.out k e he
        obtain ⟨ead, ecc⟩ : ad1 = some ⟨g, 0, none⟩ ∧ cc1 = c' := by injection hv with a b c; exact ⟨a, c⟩
        subst ead ecc
        have i0 := cell_old HU.out j0
        have i1 := cell_old HU.out j1
        have i2 := cell_old HU.out j2
        have htk : outs ((dueOf nw s).take (k + 1)) = outs ((dueOf nw s).take k) ++ [.int .i64 e.2.2] := by unfold outs; rw [List.take_add_one, he, List.map_append]; rfl
        have HTK := Lib.hid htk
        clear hv j0 j1 j2 htk he
        obtain ⟨e0, e1, e2⟩ := e
        go_wp2_with (at_builtin; go_loud (refine wpList_push rfl _ _ 46 rfl w2.heap.size TI _ (.int .i64 0) 1 8 Tryd.underlying46 hi hz0 hz1 hz2 rfl (by decide) (by decide) _ _ _ rfl (ownsRow_upd HO.out (((Upd.refl _ _).alloc _).alloc _) (fun _ _ h => h)) (wB.heap.size + 1) 1 [.int .i64 e2] rfl rfl (new_cellsB _ _ #[_] _) (by simp [Value.oneCell']) (by omega) (by simp; omega) ?_; intro v4 w4 hown4 hu4 hn4; obtain ⟨ad4, c4, rfl⟩ : ∃ ad c, v4 = .slice ad (k + 1) c := by (rcases hown4.2 with ⟨rfl, h⟩ | ⟨g, cap, cur, rfl, _⟩); (exact absurd h (Nat.succ_ne_zero k)); (exact ⟨_, _, rfl⟩)))
        have HO4 := Lib.hid hown4
        have HU4 := Lib.hid (HU.out.trans (((((Upd.refl Nowhere wB).alloc _).alloc _).any _).trans hu4 (fun _ _ h => h)) (fun q hq h => absurd hq (Nat.not_lt.2 (HO.out.lt q h).1)))
        clear hown4 hu4 hn4
        go_wp2_with fail
        go_roundw
        case rel => exact ⟨k + 1, ad4, c4, by omega, by go_num, rfl, by rw [HTK.out]; exact HO4.out, HU4.out⟩
        case measure => simp [intOf]; omega
      · have hI : ¬ (k : Int) < N := by omega
        obtain rfl : k = N := by omega
        have htk : (dueOf nw s).take k = dueOf nw s := List.take_of_length_le (by rw [HNN.out]; exact Nat.le_refl _)
        have c3 := cell_old HU.out c2
        have HUS : Hid (Upd (fun q => (Value.slice ad1 k cc1).ownBlock = some q) wS wB) := Lib.hid (HU2.out.trans HU.out (fun _ _ h => h.elim))
        obtain ⟨_, _, d2, _, y⟩ := HM1.out.at_nums
        have c4 : wB.cell? ⟨b, 718, none⟩ = some (.int .i64 n) := by rw [HUS.out.cell _ hbS HNB.out]; exact d2
        have y4 : wB.frozen? ⟨b, 718, none⟩ = false := by rw [HUS.out.frozen _ hbS HNB.out]; exact y 718
        have y5 : wB.frozen? ⟨b, 715, none⟩ = false := by rw [HUS.out.frozen _ hbS HNB.out]; exact y 715
        have HTK := Lib.hid htk
        clear d2 y htk c2
        go_upto_region 18 with fail
        refine wp_region_tail 12 (by kernel_rfl) (by kernel_rfl) ?_
        simp only [List.take_succ_cons, List.take_zero, List.drop_succ_cons, List.drop_zero]
        repeat (go_big_quiet_step (fail))
        refine wpQuiet_nil ?_
        rintro _ ⟨nq, rfl⟩
        go_wp2
        refine Stage.out ?_
        have HUN := Lib.hid (upd_set_comm (HUS.out.drewN nq) b 718 (.int .i64 (n2 : Nat)))
        have HMN := Lib.hid ((HM1.out.setN n2).setRow HUN.out isRow_late (v' := .slice none 0 0) (q' := []) (fun q _ hq => by rw [HV1.out]; exact hq) (ownsRow_nil _ _ _ _) (fun q hq => by simp [Value.ownBlock] at hq) (fun q hq => by simp [World.setCell]; exact Nat.lt_of_lt_of_le (HA.out q hq) hsS))
        have HUF : Hid (Upd (Free A w0) w (((wB.drewN nq).setCell ⟨b, 718, none⟩ (.int .i64 (n2 : Nat))).setCell ⟨b, 715, none⟩ (.slice none 0 0))) := Lib.hid ((((HU1.out.trans HUS.out (fun q _ hq => HFAR.out q hq)).drewN nq).setCell (a := ⟨b, 718, none⟩) (fun _ => hbf) _).setCell (a := ⟨b, 715, none⟩) (fun _ => hbf) _)
        have HUB : Upd (fun q => q = b) wB (((wB.drewN nq).setCell ⟨b, 718, none⟩ (.int .i64 (n2 : Nat))).setCell ⟨b, 715, none⟩ (.slice none 0 0)) := (((Upd.refl (fun q => q = b) wB).drewN nq).trans (upd_at _ b 718 _) (fun _ _ h => h)).trans (upd_at _ b 715 _) (fun _ _ h => h)
        have HOF := Lib.hid (ownsRow_upd (ownsRow_base HO.out (show w.heap.size ≤ w2.heap.size by omega)) HUB (fun q hq e => by have h9 := (HO.out.lt q hq).1; omega))
        clear HUB
        clear c4
        go_wp2_with fail
        go_ret
        refine ⟨_, rfl, by rw [HNN.out]; have h9 := HOF.out; rw [HTK.out] at h9; exact h9, ⟨_, _, us1, by rw [HN2.out]; exact HMN.out, HS1.out.late0, ⟨HD2.out, HLO.out, fun e he => HM.out.old e (List.mem_filter.1 he).1⟩, ?_, h5, by omega⟩, HUF.out⟩
        have h9 := due_left nw s
        omega
end Go.Proofs.YtjbaibnmbeabnaaDoor.Wheel
