/- TreePlays0, TreePlays, one behind the other. -/
import Derived.Test.YtllfloapiliheaaDoorMRef30
import Derived.Test.YtllfloapiliheaaDoorMTreeAB
import Derived.Deep.RegionHeld3
namespace Go.Proofs.YtllfloapiliheaaDoor.Tree
open Go.RowKit Go.Proofs BigFrame
open R30 (RS RV RLay Sim RFit Aft rcomps chk r0 u0)
set_option maxHeartbeats 4000000
set_option maxRecDepth 1000000
section
variable {w w' w1 : World} {own own' own1 : Nat → Prop} {L : Lay} {sh : Sh} {room : Nat} {s : TS}
theorem waits_out_eq (h : TIn w own L sh room s) (x : Int) (hx : x < 0 ∨ (sh.n : Int) ≤ x) : Calls Tryd.prog 25 #[.pointer (some ⟨L.b, 0, none⟩), .int .i64 x] w fun e w' => e = .returned (.int .i64 0) ∧ w = w' := by
  obtain ⟨t0, -⟩ := h.fields
  clear h
  by_cases h0 : x < 0
  · have d1 : decide (x < 0) = true := decide_eq_true h0
    go_enter Tryd.func25, Tryd.ntmps25
    go_wp2_with fail
    go_ret
    exact ⟨rfl, rfl⟩
  · have d1 : decide (x < 0) = false := decide_eq_false h0
    have d2 : decide (x ≥ (sh.n : Int)) = true := decide_eq_true (by omega)
    have d3 : decide ((sh.n : Int) ≤ x) = true := decide_eq_true (by omega)
    go_enter Tryd.func25, Tryd.ntmps25
    go_wp2_with fail
    go_ret
    exact ⟨rfl, rfl⟩
theorem waits_eq (h : TIn w own L sh room s) {x : Nat} (hx : x < sh.n) : Calls Tryd.prog 25 #[.pointer (some ⟨L.b, 0, none⟩), .int .i64 (x : Nat)] w fun e w' => e = .returned (.int .i64 ((s.q x).length : Nat)) ∧ w = w' := by
  obtain ⟨t0, -⟩ := h.fields
  obtain ⟨n0, n1, n2, n3, n4, n5, -⟩ := h.node hx
  have HL := fun u hu => Lib.hid (qlen_ok (h.old (w' := u) hu) hx)
  have d1 : decide ((x : Int) < 0) = false := decide_eq_false (by omega)
  have d2 : decide ((x : Int) ≥ (sh.n : Int)) = false := decide_eq_false (by omega)
  have d3 : decide ((sh.n : Int) ≤ (x : Int)) = false := decide_eq_false (by omega)
  have d4 : decide (sh.n ≤ x) = false := decide_eq_false (by omega)
  have hI : (x : Int) < (sh.n : Int) := by omega
  clear h
  go_enter Tryd.func25, Tryd.ntmps25
  go_wp2_with fail
  refine (HL _ (Upd.refl _ _)).out.mono ?_
  rintro e w' ⟨rfl, rfl⟩
  go_wp2_with fail
  go_ret
  exact ⟨rfl, rfl⟩
end
theorem new_chk (ad : Option Addr) (c : Nat) (l : List Nd) (w : World) (room : Int) (h : NodesAt w ad l) (hk : chk l room ≠ 0) :
    Calls Tryd.prog 11 #[.slice ad l.length c, .int .i64 room] w fun e w' => e = .returned (.tuple #[.pointer none, .int .i64 (chk l room : Nat)]) ∧ Upd Nowhere w w' := by
  unfold chk at hk ⊢
  by_cases hl : l.length = 0 ∨ 32 < l.length
  · rw [if_pos hl]; exact new_bad ad c l w room hl
  · rw [if_neg hl] at hk ⊢
    by_cases ho : okL 0 l = false
    · rw [if_pos ho]; exact new_arg ad c l w room h (by omega) (by omega) ho
    · rw [if_neg ho] at hk ⊢
      by_cases hr : room < 1 ∨ 4096 < room
      · rw [if_pos hr]; exact new_caps ad c l w room h (by omega) (by omega) (by revert ho; cases okL 0 l <;> simp) hr
      · rw [if_neg hr] at hk; exact absurd rfl hk
theorem chk_zero {l : List Nd} {room : Int} (h : chk l room = 0) : 0 < l.length ∧ l.length ≤ 32 ∧ okL 0 l = true ∧ ∃ rm : Nat, room = rm ∧ 1 ≤ rm ∧ rm ≤ 4096 := by
  unfold chk at h
  by_cases hl : l.length = 0 ∨ 32 < l.length
  · rw [if_pos hl] at h; cases h
  · rw [if_neg hl] at h
    by_cases ho : okL 0 l = false
    · rw [if_pos ho] at h; cases h
    · rw [if_neg ho] at h
      by_cases hr : room < 1 ∨ 4096 < room
      · rw [if_pos hr] at h; cases h
      · exact ⟨by omega, by omega, by revert ho; cases okL 0 l <;> simp, room.toNat, by omega, by omega, by omega⟩
theorem plays_no (ad : Option Addr) (cp : Nat) (nl : List Nd) (room : Int) (ad2 : Option Addr) (n2 c2 : Nat) (w : World) (E : Env w) (hn : NodesAt w ad nl) (h : (40 < nl.length ∨ 150 < n2) ∨ chk nl room ≠ 0) :
    Calls Tryd.prog 8 #[.slice ad nl.length cp, .int .i64 room, .slice ad2 n2 c2] w fun e w' => e = .returned (.bool true) ∧ Upd Nowhere w w' := by
  have HFA := Lib.hid (far_ok ad nl.length cp ad2 n2 c2 w)
  have HL := fun u (hu : Upd Nowhere w u) => Lib.hid (lives u (E.old hu))
  by_cases hf : 40 < nl.length ∨ 150 < n2
  · rw [decide_eq_true hf] at HFA
    have hlv := Lib.hid (lives w E)
    clear h hf hn E HL
    go_enter Tryd.func8, Tryd.ntmps8
    go_wp2_with fail
    refine (HFA.out).mono ?_
    rintro e w1 ⟨rfl, rfl⟩
    go_wp2_with fail
    refine (hlv.out).mono ?_
    rintro e w2 ⟨rfl, u2⟩
    go_wp2_with fail
    go_ret
    exact ⟨rfl, u2⟩
  · rw [decide_eq_false hf] at HFA
    have hk : chk nl room ≠ 0 := h.elim (fun h => absurd h hf) id
    have HN1 := Lib.hid (new_chk ad cp nl w room hn hk)
    have HC1 := fun u (hu : Upd Nowhere w u) => Lib.hid (R30.chk_any ad cp nl room u (NodesAt.old hn hu))
    obtain ⟨c, hc⟩ : ∃ c, chk nl room = c := ⟨_, rfl⟩
    rw [hc] at HN1 HC1 hk
    have q1 : ((c : Int) == 0) = false := by simp; omega
    have q2 : ((c : Int) != 0) = true := by simp; omega
    clear h hf hn hc hk E
    go_enter Tryd.func8, Tryd.ntmps8
    go_wp2_with fail
    refine (HFA.out).mono ?_
    rintro e w1 ⟨rfl, rfl⟩
    go_wp2_with fail
    refine (HN1.out).mono ?_
    rintro e w2 ⟨rfl, u2⟩
    have HC2 := Lib.hid (HC1 _ u2).out
    clear HC1
    go_wp2_with fail
    refine (HC2.out).mono ?_
    rintro e w3 ⟨rfl, u3⟩
    have hu := u2.trans u3 (fun _ _ h => h)
    have hlv := Lib.hid (HL _ hu).out
    clear u2 u3 HL
    go_wp2_with fail
    refine (hlv.out).mono ?_
    rintro e w4 ⟨rfl, u4⟩
    go_wp2_with fail
    go_ret
    exact ⟨rfl, hu.trans u4 (fun _ _ h => h)⟩
/-- Both trees, and an act, among what was made. -/
abbrev LT (XB : Nat) (x : Act) (L : Lay) (sh : Sh) (s : TS) (c : Nat) (vn : Value) (Y : RLay) (u : RV) (n room : Nat) (r : RS) : List Comp := blkC XB (actA x) TAct :: treeC L sh room s c :: rcomps vn Y u n (room : Int) r
section
variable {w0 w : World} {L : Lay} {s s' : TS} {c XB : Nat} {x : Act} {Y : RLay} {u : RV} {room : Nat} {r : RS}
theorem plays_a {sh : Sh} {n : Nat} {vn : Value} (h : Made w0 w (LT XB x L sh s c vn Y u n room r)) (E : Env w0) (hs : sh.Ok) (hr : room ≤ 4096) (hc : c + 20000000 < 18446744073709551615) {t : Nat} (ht : t ≤ 18446744073709551615) (leaf : Int) (a b d : Nat) (ha : a < 4294967296) (hb : b < 4294967296) (hd : d ≤ 18446744073709551615) {v : Nat} (hv : push sh room s t leaf (a, b, d) = (v, s')) :
    Calls Tryd.prog 14 #[.pointer (some ⟨L.b, 0, none⟩), .int .u64 (t : Nat), .int .i64 leaf, .agg #[.int .u32 a, .int .u32 b, .int .u64 d]] w fun e w' => e = .returned (.int .i64 (v : Nat)) ∧ Made w0 w' (LT XB x L sh s' (c + 10000000) vn Y u n room r) :=
  m_push [blkC XB (actA x) TAct] (rcomps vn Y u n (room : Int) r) h E hs hr hc ht leaf a b d ha hb hd hv
theorem plays_b {ga oa : Nat} {nl : List Nd} (cp : Nat) (hn : NodesAt w0 (some ⟨ga, oa, none⟩) nl) (hok : okL 0 nl = true) (h0 : 0 < nl.length) (h32 : nl.length ≤ 32) (hs : (shOf nl).Ok) {sA : TS} {n : Nat} (hnl : nl.length = n)
    (hm : Made w0 w (LT XB x L (shOf nl) sA c (.slice (some ⟨ga, oa, none⟩) n cp) Y u n room r)) (hS : Sim (shOf nl) s r) (hg : Good (shOf nl) room s) (hrm : room ≤ 4096) (hfit : RFit r) {k : Nat} (hk : k ≤ 150) (hP : r.P.length ≤ k) (hB : r.R.length + meas s.H ≤ 34 * k) {now : Nat} (ht : now ≤ 18446744073709551615) (leaf : Int) (a b d : Nat) (ha : a < 4294967296) (hb : b < 4294967296) (hc : d ≤ 18446744073709551615) {v : Nat} (hv : push (shOf nl) room s now leaf (a, b, d) = (v, s')) :
    Calls Tryd.prog 24 #[.pointer (some ⟨Y.b, 0, none⟩), .int .u64 (now : Nat), .int .i64 leaf, .agg #[.int .u32 a, .int .u32 b, .int .u64 d]] w fun e w' => e = .returned (.int .i64 (v : Nat)) ∧
      ∃ u' r', Made w0 w' (LT XB x L (shOf nl) sA c (.slice (some ⟨ga, oa, none⟩) n cp) Y u' n room r') ∧ Aft (shOf nl) s' r' (34 * (k + 1)) (k + 1) := by
  subst hnl
  refine (R30.push_any cp hn hok h0 h32 hs Y [blkC XB (actA x) TAct, treeC L (shOf nl) room sA c] hm hS hg hrm hfit (by omega) (by omega) now ht leaf a b d ha hb hc).mono ?_
  rw [hv]
  rintro e w' ⟨rfl, u', r', h1, h2⟩
  exact ⟨rfl, u', r', h1, h2.sim, h2.fit, Nat.le_trans h2.P (by omega), Nat.le_trans h2.pot (by omega)⟩
end
end Go.Proofs.YtllfloapiliheaaDoor.Tree
namespace Go.Proofs.YtllfloapiliheaaDoor.Tree
open Go.RowKit Go.Proofs BigFrame
open R30 (RS RV RLay Sim RFit Aft rcomps chk chk_any r0 u0)
open Sat (ref_add)
open Wide (Gives)
set_option maxHeartbeats 8000000
set_option maxRecDepth 1000000
set_option linter.unusedSimpArgs false
theorem plays_walk (ad : Option Addr) (cp : Nat) (nl : List Nd) (room : Int) (ad2 : Option Addr) (c2 : Nat) (l : List Act) (w : World) (E : Env w) (hn : NodesAt w ad nl) (hc0 : chk nl room = 0) (hfn : FitN nl) (h40 : nl.length ≤ 40) (h150 : l.length ≤ 150) (ha : Acts w ad2 l) (hok : ∀ a ∈ l, a.Ok) :
    Calls Tryd.prog 8 #[.slice ad nl.length cp, .int .i64 room, .slice ad2 l.length c2] w fun e w' => e = .returned (.bool true) ∧ Upd Nowhere w w' := by
  obtain ⟨g0, g1, g2, rm, hroom, hr1, hr2⟩ := chk_zero hc0
  have hck := fun u (hu : Upd Nowhere w u) => Lib.hid (chk_any ad cp nl room u (NodesAt.old hn hu))
  rw [hc0] at hck
  subst hroom
  have hsh := shOf_ok g2 g0 g1 hfn
  obtain ⟨ga, oa, hn'⟩ : ∃ ga oa, ad = some ⟨ga, oa, none⟩ := by
    obtain ⟨ga, oa, h, _⟩ := R30.nodes_get hn (Upd.refl _ _) g2 g0
    exact ⟨ga, oa, h⟩
  subst hn'
  have hf := far_ok (some ⟨ga, oa, none⟩) nl.length cp ad2 l.length c2 w
  rw [decide_eq_false (by omega)] at hf
  have HFA := Lib.hid hf
  have HN1 := Lib.hid (m_new (room := rm) (cp := cp) (Made.start w) E hn g0 g1 g2 hr1 hr2)
  have HR1 := fun (u : World) (Q : List Comp) (hm : Made w u Q) => Lib.hid (R30.rnew_any (some ⟨ga, oa, none⟩) cp nl.length (rm : Int) g0 g1 Q hm)
  have HL := fun u (hu : Upd Nowhere w u) => Lib.hid (lives u (E.old hu))
  have HPB := fun (u : World) (XB : Nat) (x : Act) (L : Lay) (s : TS) (c : Nat) (Y : RLay) (rv : RV) (n : Nat) (r : RS) (hnn : nl.length = n) (hm : Made w u (LT XB x L (shOf nl) s c (.slice (some ⟨ga, oa, none⟩) n cp) Y rv n rm r)) => True
  clear HPB
  have HPU := @plays_b w
  have HPO := fun {u : World} (Y : RLay) (Q : List Comp) (rv : RV) (r : RS) (s : TS) (hm : Made w u (Q ++ rcomps (.slice (some ⟨ga, oa, none⟩) nl.length cp) Y rv nl.length (rm : Int) r)) (hS : Sim (shOf nl) s r) (hg : Good (shOf nl) rm s) (hfit : RFit r) (hP : r.P.length ≤ 900000) (hB : r.R.length + meas s.H ≤ 800000000) (now : Nat) (ht : now ≤ 18446744073709551615) => Lib.hid (R30.pop_any cp hn g2 g0 g1 hsh Y Q hm hS hg hr2 hfit hP hB now ht)
  have HPS := fun {u : World} {L : Lay} {s s' : TS} {c XB : Nat} {x : Act} {Y : RLay} {rv : RV} {r : RS} {sA : TS} (hm : Made w u (LT XB x L (shOf nl) sA c (.slice (some ⟨ga, oa, none⟩) nl.length cp) Y rv nl.length rm r)) (hS : Sim (shOf nl) s r) (hg : Good (shOf nl) rm s) (hfit : RFit r) {k : Nat} (hk : k ≤ 150) (hP : r.P.length ≤ k) (hB : r.R.length + meas s.H ≤ 34 * k) {now : Nat} (ht : now ≤ 18446744073709551615) (leaf : Int) (a b d : Nat) (ha : a < 4294967296) (hb : b < 4294967296) (hc : d ≤ 18446744073709551615) {v : Nat} (hv : push (shOf nl) rm s now leaf (a, b, d) = (v, s')) => Lib.hid (plays_b cp hn g2 g0 g1 hsh rfl hm hS hg hr2 hfit hk hP hB ht leaf a b d ha hb hc hv)
  clear HPU
  have hshn : (shOf nl).n = nl.length := rfl
  obtain ⟨sh, hsh2⟩ : ∃ sh, shOf nl = sh := ⟨_, rfl⟩
  obtain ⟨nA, hnA⟩ : ∃ n, l.length = n := ⟨_, rfl⟩
  obtain ⟨n, hnl⟩ : ∃ n, nl.length = n := ⟨_, rfl⟩
  rw [hsh2] at hsh HN1 HPO HPS hshn
  rw [hnA, hnl] at HFA
  rw [hnA] at h150 ⊢
  rw [hnl] at HN1 HR1 HPO HPS hck hshn h40 g0 g1 ⊢
  have HE := Lib.hid E
  have HA := Lib.hid ha
  have HO := Lib.hid hok
  have HNA := Lib.hid hnA
  have HS := Lib.hid hsh
  have HSN := Lib.hid hshn
  clear E hn hfn g2 hf ha hok hnA hsh hsh2 hc0 hnl hshn
  go_enter Tryd.func8, Tryd.ntmps8
  go_wp2_with fail
  refine (HFA.out).mono ?_
  rintro e w1 ⟨rfl, rfl⟩
  go_wp2_with fail
  refine (HN1.out).mono ?_
  rintro e w2 ⟨L, rfl, h2⟩
  have HCK := Lib.hid (hck _ h2.upd).out
  have H2 := Lib.hid h2
  clear h2 hck HN1 HFA
  go_wp2_with fail
  refine (HCK.out).mono ?_
  rintro e w3 ⟨rfl, u3⟩
  have HR3 := Lib.hid (HR1 _ _ (H2.out.old u3)).out
  clear HCK u3 HR1 H2
  go_wp2_with fail
  refine (HR3.out).mono ?_
  rintro e w4 ⟨Y, rfl, h4⟩
  have H4 := Lib.hid h4
  clear h4 HR3
  go_wp2_with fail
  go_loopw [11, 50] (fun vn i wr => ∃ (k N : Nat) (s : TS) (r : RS) (rv : RV), i = .int .i64 k ∧ vn = .int .u64 (N : Nat) ∧ k ≤ nA ∧ N ≤ 18446744073709551615 ∧ Made w wr (treeC L sh rm s (k * 10000000) :: rcomps (.slice (some ⟨ga, oa, none⟩) n cp) Y rv n (rm : Int) r) ∧ Aft sh s r (34 * k) k) (fun _ i _ => nA - (intOf i).toNat)
  case atStart => exact ⟨0, 0, s0, r0, u0, rfl, rfl, Nat.zero_le _, Nat.zero_le _, H4.out, ⟨fun i hi => trivial, fun i hi => rfl, fun i hi => rfl, fun i hi => rfl, trivial, rfl, rfl⟩, ⟨fun _ => Nat.zero_le _, fun _ => Nat.zero_le _, fun _ => Nat.zero_le _, fun p hp => by cases hp⟩, Nat.le_refl _, Nat.le_refl _⟩
  case round =>
    obtain ⟨k, N, s, r, rv, rfl, rfl, hk, hN, hM, hAF⟩ := hrel
    obtain ⟨wB, rfl⟩ : ∃ x, x = wr := ⟨_, rfl⟩
    clear H4
    by_cases hlt : k < nA
    · have hI : (k : Int) < nA := by omega
      obtain ⟨x, hx⟩ : ∃ x, l[k]? = some x := ⟨l[k]'(by rw [HNA.out]; exact hlt), by simp⟩
      obtain ⟨o1, o2, o3, o4⟩ := HO.out x (List.mem_of_getElem? hx)
      obtain ⟨gA, oA, rfl, ⟨e0, e1, e2, e3, e4, e5⟩, ⟨e1', e2', e3', e4', e5'⟩⟩ := HA.out.get hM.upd hx
      obtain ⟨_, _, hgs⟩ := m_tree [] _ hM
      have hM1 := m_blk hM (actA x) TAct
      obtain ⟨p, t, nd, fl, id, len⟩ := x
      simp only at e0 e1 e2 e3 e4 e5 e1' e2' e3' e4' e5' o1 o2 o3 o4
      obtain ⟨N2, hN2⟩ : ∃ N2, min (N + t) 18446744073709551615 = N2 := ⟨_, rfl⟩
      have hN3 : N2 ≤ 18446744073709551615 := by omega
      have HGS := Lib.hid hgs
      have HAF := Lib.hid hAF
      have hra := ref_add N t hN o1
      rw [hN2] at hra
      have HRA := fun (u : World) => Lib.hid (hra u)
      obtain ⟨XB, hXB⟩ : ∃ XB, wB.heap.size = XB := ⟨_, rfl⟩
      rw [hXB] at hM1
      have HM1 := Lib.hid hM1
      have HXB := Lib.hid hXB
      clear hM hM1 hgs hx hN2 hXB hra hAF
      go_upto_region 14 with fail
      have hXB := HXB.out
      try simp only [hXB]
      clear hXB HXB e0 e1 e2 e3 e4 e5 e1' e2' e3' e4' e5'
      generalize wB.alloc (.cells #[.bool p, .int .u64 t, .int .i64 nd, .int .u32 fl, .int .u32 id, .int .u64 len] TAct) = w4 at *
      obtain ⟨x1, x2, x3, x4, x5⟩ := x_cells HM1.out
      simp only at x1 x2 x3 x4 x5
      go_wp2_with fail
      refine ((HRA _).out).mono ?_
      rintro e w5 ⟨rfl, u5⟩
      have HM5 := Lib.hid (HM1.out.old u5)
      clear x1 x2 x3 x4 x5 u5 HM1 HRA
      have hx0 : w5.cell? ⟨XB, 0, none⟩ = some (.bool p) := by
        obtain ⟨o, h1, _, _⟩ := Made.foc (blkC XB _ TAct) _ [] HM5.out
        exact h1.1.cellAt rfl
      have hkk : k * 10000000 + 20000000 < 18446744073709551615 := by omega
      have hkk2 : (k + 1) * 10000000 = k * 10000000 + 10000000 := Nat.succ_mul k _
      go_upto_if 59 with fail
      clear hx0
      go_cut [] from 60 to 94 (fun wc => ∃ s' r' rv', Made w wc (treeC L sh rm s' ((k + 1) * 10000000) :: rcomps (.slice (some ⟨ga, oa, none⟩) n cp) Y rv' n (rm : Int) r') ∧ Aft sh s' r' (34 * (k + 1)) (k + 1))
      case first =>
        cases p with
        | true =>
          obtain ⟨⟨pa, pb, pc⟩, v, s', hv⟩ : ∃ p v s', pop sh s N2 = (p, v, s') := ⟨_, _, _, rfl⟩
          go_wp2_with fail
          refine (m_pop [blkC XB _ TAct] _ HM5.out HE.out HS.out hr2 hkk hN3 hv).mono ?_
          rintro e w6 ⟨rfl, h6⟩
          have h6 := m_blk h6 #[.int .u32 pa, .int .u32 pb, .int .u64 pc] TPk
          go_upto_region 17 with fail
          generalize w6.alloc (.cells #[.int .u32 pa, .int .u32 pb, .int .u64 pc] TPk) = w7 at *
          generalize w6.heap.size = PB at *
          have hA := HAF.out
          have HPP := Lib.hid (HPO Y [blkC PB #[.int .u32 pa, .int .u32 pb, .int .u64 pc] TPk, blkC XB (actA { pop := true, later := t, node := nd, fl := fl, id := id, len := len }) TAct, treeC L sh rm s' (k * 10000000 + 10000000)] rv r s h6 hA.sim HGS.out hA.fit (by have := hA.P; omega) (by have := hA.pot; omega) N2 hN3).out
          rw [hv] at HPP
          clear h6 hA hv HPO HPS
          go_wp2_with fail
          refine (HPP.out).mono ?_
          rintro e w8 ⟨rfl, rv', r', h8, hA8⟩
          have h8 := m_blk h8 #[.int .u32 pa, .int .u32 pb, .int .u64 pc] TPk
          have HA8 := Lib.hid hA8
          clear HPP hA8
          go_upto_region 18 with fail
          generalize w8.alloc (.cells #[.int .u32 pa, .int .u32 pb, .int .u64 pc] TPk) = w9 at *
          generalize w8.heap.size = QB at *
          obtain ⟨_, hq, _, _⟩ := Made.foc (blkC QB #[.int .u32 pa, .int .u32 pb, .int .u64 pc] TPk) _ [] h8
          obtain ⟨_, hp, _, _⟩ := Made.foc (blkC PB #[.int .u32 pa, .int .u32 pb, .int .u64 pc] TPk) _ [_] h8
          obtain ⟨q0, q1, q2, -⟩ := cells3 hq.1
          obtain ⟨p0, p1, p2, -⟩ := cells3 hp.1
          have H9 : Hid (Made w w9 (treeC L sh rm s' (k * 10000000 + 10000000) :: rcomps (.slice (some ⟨ga, oa, none⟩) n cp) Y rv' n (rm : Int) r')) := Lib.hid h8.drop.drop.drop
          clear h8 hq hp
          go_wp2_with fail
          go_meet
          exact ⟨s', r', rv', by rw [hkk2]; exact H9.out, HA8.out.sim, HA8.out.fit, Nat.le_trans HA8.out.P (by have := HAF.out.P; omega), Nat.le_trans HA8.out.pot (by have := HAF.out.pot; omega)⟩
        | false =>
          obtain ⟨v, s', hv⟩ : ∃ v s', push sh rm s N2 nd (fl, id, len) = (v, s') := ⟨_, _, rfl⟩
          have hA := HAF.out
          have HAd : Made w w5.drew (LT XB { pop := false, later := t, node := nd, fl := fl, id := id, len := len } L sh s (k * 10000000) (.slice (some ⟨ga, oa, none⟩) n cp) Y rv n rm r) := HM5.out.old ((Upd.refl Nowhere w5).drew)
          have HPA := fun (u : World) (rv : RV) (r : RS) (hm : Made w u (LT XB { pop := false, later := t, node := nd, fl := fl, id := id, len := len } L sh s (k * 10000000) (.slice (some ⟨ga, oa, none⟩) n cp) Y rv n rm r)) => Lib.hid (plays_a hm HE.out HS.out hr2 hkk hN3 nd fl id len o2 o3 o4 hv)
          have HPB := fun (u : World) (sA : TS) (c : Nat) (hm : Made w u (LT XB { pop := false, later := t, node := nd, fl := fl, id := id, len := len } L sh sA c (.slice (some ⟨ga, oa, none⟩) n cp) Y rv n rm r)) => Lib.hid (HPS hm hA.sim HGS.out hA.fit (k := k) (by omega) hA.P hA.pot hN3 nd fl id len o2 o3 o4 hv).out
          obtain ⟨x1, x2, x3, x4, x5⟩ := x_cells HM5.out
          simp only at x1 x2 x3 x4 x5
          clear hv hA HPO HPS
          go_upto_region 20 with fail
          go_region_held3 (fun w' => w'.cell? ⟨XB, 1, none⟩ = some (.int .u64 t) ∧ w'.cell? ⟨XB, 2, none⟩ = some (.int .i64 nd) ∧ w'.cell? ⟨XB, 3, none⟩ = some (.int .u32 fl) ∧ w'.cell? ⟨XB, 4, none⟩ = some (.int .u32 id) ∧ w'.cell? ⟨XB, 5, none⟩ = some (.int .u64 len)) (first | exact ⟨x1, x2, x3, x4, x5⟩ | assumption) (first
            | (go_at_call 14; (first
              | (with_reducible refine (HPA _ _ _ h12).out.mono ?_; rintro e w11 ⟨rfl, h11⟩; have hS11 := x_cells h11)
              | (with_reducible refine (HPA _ _ _ HAd).out.mono ?_; rintro e w11 ⟨rfl, h11⟩; have hS11 := x_cells h11)))
            | (go_at_call 24; (first
              | (with_reducible refine (HPB _ _ _ h11).out.mono ?_; rintro e w12 ⟨rfl, rv', r', h12, hA12⟩; have hS12 := x_cells h12)
              | (with_reducible refine (HPB _ _ _ HAd).out.mono ?_; rintro e w12 ⟨rfl, rv', r', h12, hA12⟩; have hS12 := x_cells h12))))
          all_goals
            have HA8 := Lib.hid hA12
            first
              | (have H9 : Hid (Made w w12 (treeC L sh rm s' (k * 10000000 + 10000000) :: rcomps (.slice (some ⟨ga, oa, none⟩) n cp) Y rv' n (rm : Int) r')) := Lib.hid h12.drop; clear h11 h12)
              | (have H9 : Hid (Made w w11 (treeC L sh rm s' (k * 10000000 + 10000000) :: rcomps (.slice (some ⟨ga, oa, none⟩) n cp) Y rv' n (rm : Int) r')) := Lib.hid h11.drop; clear h11 h12)
            clear hS11 hS12 HAd hA12
            go_wp2_with fail
            go_meet
            exact ⟨s', r', rv', by rw [hkk2]; exact H9.out, HA8.out⟩
      case rest =>
        obtain ⟨s', r', rv', hM9, hA9⟩ := hcut
        obtain ⟨w9, rfl⟩ : ∃ x, x = wc := ⟨_, rfl⟩
        have HM9 := Lib.hid hM9
        have HA9 := Lib.hid hA9
        clear hM9 hA9 HM5 HPS HPO HGS HAF
        go_wp2_with fail
        go_loopw [97] (fun iv wr => ∃ j : Nat, iv = .int .i64 j ∧ j ≤ n ∧ Made w wr (treeC L sh rm s' ((k + 1) * 10000000) :: rcomps (.slice (some ⟨ga, oa, none⟩) n cp) Y rv' n (rm : Int) r')) (fun iv _ => n - (intOf iv).toNat)
        case atStart => exact ⟨0, rfl, Nat.zero_le _, HM9.out⟩
        case round =>
          obtain ⟨j, rfl, hj, hMj⟩ := hrel
          obtain ⟨wC, rfl⟩ : ∃ x, x = wr := ⟨_, rfl⟩
          clear HM9
          obtain ⟨oT, hT, _⟩ := m_tree [] _ hMj
          have hD := R30.rd [treeC L sh rm s' ((k + 1) * 10000000)] hMj
          have hMj2 := hMj
          obtain ⟨own, hsep, hown⟩ := hMj2
          by_cases hlj : j < n
          · have hI : (j : Int) < n := by omega
            have c1 := hD.c1
            obtain ⟨l0, l1⟩ := R30.r_vl [treeC L sh rm s' ((k + 1) * 10000000)] hsep hlj
            have hrow := R30.r_row [treeC L sh rm s' ((k + 1) * 10000000)] hsep hlj
            obtain ⟨av, cv, hvl⟩ := hrow.form
            rw [hvl, ← (HA9.out.sim.L j (by rw [HSN.out]; exact hlj)).len] at l0
            have HWA := fun (x : World) (hx : Upd Nowhere wC x) => Lib.hid (waits_eq (hT.old hx) (x := j) (by rw [HSN.out]; exact hlj))
            obtain ⟨ql, hql⟩ : ∃ y, (s'.q j).length = y := ⟨_, rfl⟩
            rw [hql] at l0 HWA
            have e1 : ((ql : Int) != (ql : Int)) = false := by simp
            have HMJ := Lib.hid hMj
            clear hMj hT hD hsep hown hrow hvl hql l1
            go_upto_region 25 with fail
            go_quiet ((go_at_call 25; exact Calls.quiet_of_same ((HWA _ ((Upd.refl _ _).drewN _)).out.mono fun _ _ h => ⟨h.1, h.2.symm⟩)))
            go_wp2_with fail
            go_roundw
            case rel => exact ⟨j + 1, by first | rfl | go_num, by omega, HMJ.out.old ((Upd.refl _ _).drewN _)⟩
            case measure => simp [intOf]; omega
          · obtain rfl : j = n := by omega
            have hI : ¬ (j : Int) < j := by omega
            have c7 := hD.c7
            have c8 := hD.c8
            have hrow := R30.r_held [treeC L sh rm s' ((k + 1) * 10000000)] hsep
            obtain ⟨av, cv, hvl⟩ := hrow.form
            rw [hvl, ← HA9.out.sim.H.len] at c7
            rw [HA9.out.sim.now] at c8
            have hPm := HA9.out.sim.m
            have hPk := HA9.out.P
            have HLE := fun (x : World) (hx : Upd Nowhere wC x) => Lib.hid (len_ok (hT.old hx))
            have HHE := fun (x : World) (hx : Upd Nowhere wC x) => Lib.hid (held_ok (hT.old hx))
            have HNW := fun (x : World) (hx : Upd Nowhere wC x) => Lib.hid (now_ok (hT.old hx))
            have HO1 := fun (x : World) (hx : Upd Nowhere wC x) => Lib.hid (waits_out_eq (hT.old hx) (-1) (.inl (by omega)))
            have HO2 := fun (x : World) (hx : Upd Nowhere wC x) => Lib.hid (waits_out_eq (hT.old hx) (j : Int) (.inr (by rw [HSN.out]; exact Int.le_refl _)))
            have HWT := fun (x : World) (hx : Upd Nowhere wC x) => Lib.hid (R30.waits_any [treeC L sh rm s' ((k + 1) * 10000000)] (Sep.old hsep hx) (by omega) (by omega) hPm)
            obtain ⟨mm, hmm⟩ : ∃ y, s'.m = y := ⟨_, rfl⟩
            obtain ⟨hh, hhh⟩ : ∃ y, s'.H.length = y := ⟨_, rfl⟩
            obtain ⟨nn, hnn⟩ : ∃ y, s'.now = y := ⟨_, rfl⟩
            rw [hmm] at HLE HWT
            rw [hhh] at HHE c7
            rw [hnn] at HNW c8
            have e1 : ((mm : Int) != (mm : Int)) = false := by simp
            have e2 : ((hh : Int) != (hh : Int)) = false := by simp
            have e3 : ((nn : Int) != (nn : Int)) = false := by simp
            have HMJ := Lib.hid hMj
            clear hMj hT hD hsep hown hrow hvl hPm hPk hmm hhh hnn
            go_upto_region 28 with fail
            go_quiet ((first
              | (go_at_call 18; exact Calls.quiet_of_same ((HLE _ ((Upd.refl _ _).drewN _)).out.mono fun _ _ h => ⟨h.1, h.2.symm⟩))
              | (go_at_call 20; exact Calls.quiet_of_same ((HHE _ ((Upd.refl _ _).drewN _)).out.mono fun _ _ h => ⟨h.1, h.2.symm⟩))
              | (go_at_call 16; exact Calls.quiet_of_same ((HNW _ ((Upd.refl _ _).drewN _)).out.mono fun _ _ h => ⟨h.1, h.2.symm⟩))
              | (go_at_call 26; exact Calls.quiet_of (HWT _ ((Upd.refl _ _).drewN _)).out)
              | (go_at_call 25; (first
                | with_reducible exact Calls.quiet_of_same ((HO1 _ ((Upd.refl _ _).drewN _)).out.mono fun _ _ h => ⟨h.1, h.2.symm⟩)
                | with_reducible exact Calls.quiet_of_same ((HO2 _ ((Upd.refl _ _).drewN _)).out.mono fun _ _ h => ⟨h.1, h.2.symm⟩)))))
            go_wp2_with fail
            go_roundw
            case rel => exact ⟨k + 1, N2, s', r', rv', by first | rfl | go_num, rfl, by omega, hN3, HMJ.out.old ((Upd.refl _ _).drewN _), HA9.out⟩
            case measure => simp [intOf]; omega
    · obtain rfl : k = nA := by omega
      have hI : ¬ (k : Int) < k := by omega
      have hlv := Lib.hid (HL _ hM.upd).out
      have hu := hM.upd
      clear hM HL
      go_wp2_with fail
      refine hlv.out.mono ?_
      rintro e w9 ⟨rfl, u9⟩
      go_wp2_with fail
      go_ret
      exact ⟨rfl, hu.trans u9 (fun _ _ h => h)⟩
theorem plays_law (v : Value) (nl : List Nd) (hfn : ∀ a ∈ nl, a.wt ≤ 18446744073709551615 ∧ a.gap ≤ 18446744073709551615) (room : Int) (v2 : Value) (l : List Act) (hok : ∀ a ∈ l, a.later ≤ 18446744073709551615 ∧ a.fl ≤ 4294967295 ∧ a.id ≤ 4294967295 ∧ a.len ≤ 18446744073709551615) (w : World) (hv : RowsAt w v nl.length (nl.flatMap nd)) (hv2 : RowsAt w v2 l.length (l.flatMap act)) (E : Env w) :
    Calls Tryd.prog 8 #[v, .int .i64 room, v2] w fun e w' => e = .returned (.bool true) ∧ Upd Nowhere w w' := by
  obtain ⟨ad, c, rfl, hn⟩ := nodes_of hv
  obtain ⟨ad2, c2, rfl, ha⟩ := acts_of hv2
  have hok2 : ∀ a ∈ l, a.Ok := fun a h => ⟨(hok a h).1, Nat.lt_succ_of_le (hok a h).2.1, Nat.lt_succ_of_le (hok a h).2.2.1, (hok a h).2.2.2⟩
  by_cases h : (40 < nl.length ∨ 150 < l.length) ∨ chk nl room ≠ 0
  · exact plays_no ad c nl room ad2 l.length c2 w E hn h
  · exact plays_walk ad c nl room ad2 c2 l w E hn (by
      rcases Nat.eq_zero_or_pos (chk nl room) with h9 | h9
      · exact h9
      · exact absurd (.inr (by omega)) h) hfn (by omega) (by omega) ha hok2
end Go.Proofs.YtllfloapiliheaaDoor.Tree
