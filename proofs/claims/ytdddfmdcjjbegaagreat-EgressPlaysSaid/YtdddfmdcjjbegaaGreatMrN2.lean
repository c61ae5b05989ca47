/- R43N, one behind the other. -/
import Derived.Test.YtdddfmdcjjbegaaGreatMrN
import Derived.Deep.LoopGhost
import Derived.Test.YtdddfmdcjjbegaaGreatMeTk
namespace Go.Proofs.YtdddfmdcjjbegaaGreat.R43
open Go.RowKit Go.Proofs BigFrame
open RingW (It)
open First (Cf VC)
open Egs (Cs Eg OkE OkS OkF cri crs crh TRk TRc TP tks goesB opens ClsAt PlnAt dropS m_box mk_off mk_set)
open Aifo (RefIn)
set_option maxHeartbeats 40000000
set_option maxRecDepth 1000000
set_option linter.unusedSimpArgs false
open Egs (wst tkn leaveS goesB runC runQ nextE waitsQ zP set_parts drop_at waitsQ_app cfs cfs_at bsy VP runC_stop runC_gone runC_left goes_cons goes_hv set_id)
variable {w : World} {own : Nat → Prop} {m n cc cp c : Nat} {ad ap : Option Addr} {E : Eg} {R : Rf} {cs : List Cf}
theorem rnext_run (h : RfP w own m (.slice ad n cc) (.slice ap E.pl.length cp) E.pace R) (hCK : ∀ u, Upd own w u → ClsAt u ad cs ∧ PlnAt u ap E.pl) (hcs : cfs E = cs) (hn : cs.length = n) (hco : Cor E R) (hE : OkE E c) (hc : c < 1000000000) (hb : ¬ E.now < E.busy) :
 Calls Tryz.prog 30 #[.pointer (some ⟨m, 0, none⟩)] w fun x w' => x = .returned (.tuple #[.int .i64 ((nextE E).1.1 : Nat), VP (nextE E).1.2.1.1 (nextE E).1.2.1.2.1 (nextE E).1.2.1.2.2, .int .i64 ((nextE E).1.2.2 : Nat)]) ∧ ∃ own' q' b', RfP w' own' m (.slice ad n cc) (.slice ap E.pl.length cp) E.pace { R with q := q', busy := b' } ∧ Fol w own w' own' ∧ Cor (nextE E).2 { R with q := q', busy := b' } := by
 obtain ⟨_, hM, ⟨asx, css, hsv⟩, -⟩ := h.blk
 have hU : Upd Nowhere w (w.alloc (.cells zP TP)) := (Upd.refl _ _).alloc _
 have hR : Blk (w.alloc (.cells zP TP)) w.heap.size zP TP := Blk.new _ _ _
 have k6 : (w.alloc (.cells zP TP)).cell? ⟨m, 6, none⟩ = some (.int .u64 (R.now : Nat)) := cell_old hU (hM.cellAt rfl)
 have k7 : (w.alloc (.cells zP TP)).cell? ⟨m, 7, none⟩ = some (.int .u64 (R.busy : Nat)) := cell_old hU (hM.cellAt rfl)
 rw [hco.now] at k6
 rw [hco.busy] at k7
 have hEn : E.q.length = n := by rw [← hn, ← hcs]; unfold cfs; rw [List.length_map]
 have hn1 := hE.n1
 have hn2 := hE.n2
 obtain ⟨RB, hRB⟩ : ∃ RB, w.heap.size = RB := ⟨_, rfl⟩
 have hno : ¬ own RB := fun h9 => by have := Sep.lt h h9; omega
 have hqn : R.q.length = n := by rw [hco.len, hEn]
 rw [hqn] at hsv
 have HL0 : Hid (Np w (w.alloc (.cells zP TP)) own own m RB (.slice ad n cc) (.slice ap E.pl.length cp) E R c 0 cs E.q R.q 0) := Lib.hid ⟨(rfC m _ _ E.pace R).kp h hU (fun _ _ h => h), (Fol.refl _ _).old hU, by rw [← hRB]; exact hR, hno, by omega, hco, hE, hcs, rfl, by simp, by rw [List.take_zero]; rfl⟩
 rw [hEn] at hn1 hn2
 have d1 : decide (E.now < E.busy) = false := decide_eq_false hb
 have hNXs : ∀ i x Q, runQ E.pl E.pace E.now 0 E.q = (some (i, x), Q) → nextE E = ((i, (x.1, x.2.1, x.2.2.1), 0), { E with q := Q, busy := bsy E x.2.2.1 }) := fun i x Q h => by unfold nextE; rw [if_neg hb, h]
 have hNXn : ∀ Q, runQ E.pl E.pace E.now 0 E.q = (none, Q) → nextE E = ((0, (0, 0, 0), if waitsQ Q = true then 19 else 18), { E with q := Q }) := fun Q h => by unfold nextE; rw [if_neg hb, h]
 obtain ⟨NX, hNXe⟩ : ∃ NX, nextE E = NX := ⟨_, rfl⟩
 rw [hNXe] at hNXs hNXn ⊢
 have HNXS := Lib.hid hNXs
 have HNXN := Lib.hid hNXn
 have HN := Lib.hid hEn
 have HNC := Lib.hid hn
 have HCK := Lib.hid hCK
 have HSV := Lib.hid hsv
 have HRB := Lib.hid hRB
 have HCC := Lib.hid hc
 clear h hE hb hM hR hno hU hn hsv hNXs hNXn hNXe hRB hc hCK hcs hco hEn hqn
 go_enter Tryz.func30, Tryz.ntmps30
 go_upto_region 1 with fail
 generalize w.alloc (.cells zP TP) = w0 at *
 try simp only [HRB.out]
 go_wp2_with fail
 go_quiet (fail)
 go_wp2_with fail
 clear k6 k7 d1
 go_loopg [5, 6, 7, 8, 9, 10, 11, 12] (n + 1) (fun gk v5 v6 _ _ _ _ _ _ wr => ∃ (i : Nat) (EQ : List (Nat × Cf × Cs)) (Q : List (Nat × Cf × Cs × List (Nat × Int))) (wts : Nat) (own' : Nat → Prop), n - i < gk ∧ i ≤ n ∧ v6 = .int .i64 i ∧ v5 = .int .i64 wts ∧ Np w wr own own' m RB (.slice ad n cc) (.slice ap E.pl.length cp) E R c i cs EQ Q wts)
 case atStart => exact ⟨0, E.q, R.q, 0, own, by omega, Nat.zero_le _, rfl, rfl, HL0.out.old ((Upd.refl _ _).drewN nq)⟩
 case round =>
  obtain ⟨i, EQ, Q, wts, own1, hgk, hin, rfl, rfl, hL⟩ := hrel
  obtain ⟨wB, rfl⟩ : ∃ x, x = wr := ⟨_, rfl⟩
  have HGK := Lib.hid hgk
  have HL := Lib.hid hL
  have hQn : Q.length = n := hL.co.len.trans (hL.n.trans HN.out)
  obtain ⟨_, hM2, -, -, -, hS2, -⟩ := hL.rf.blk
  dsimp only at hM2 hS2
  have k3 : wB.cell? ⟨m, 3, none⟩ = some R.sv := hM2.cellAt rfl
  rw [HSV.out] at k3
  clear hgk HL0 hM2 hL
  rcases Nat.lt_or_ge i n with hlt | hge
  · have hlen : EQ.length = n := HL.out.n.trans HN.out
    obtain ⟨⟨k, cf, s⟩, hx⟩ : ∃ x, EQ[i]? = some x := ⟨EQ[i]'(by omega), by simp⟩
    obtain ⟨b, L, hq, hmat⟩ := HL.out.co.mat hx
    dsimp only at hq
    obtain ⟨gs, css2, hsv2, hcell⟩ := hS2 i _ hq
    rw [hQn, HSV.out] at hsv2
    injection hsv2 with e1 _ e3
    subst e1
    subst e3
    dsimp only at hcell
    have hI : (i : Int) < n := by omega
    have dI : decide ((i : Int) < n) = true := decide_eq_true hI
    have HX := Lib.hid hx
    have HQ := Lib.hid hq
    have HMT := Lib.hid hmat
    clear hS2 hx hlen hq hmat hQn
    go_wp2_with fail
    go_loopg [2, 4, 8, 9, 10, 11, 12] (s.l.length + 1) (fun hk _ _ _ _ _ _ _ wr => ∃ (s' : Cs) (L' : List (Nat × Int)) (own' : Nat → Prop), s'.l.length < hk ∧ RfP wr own' m (.slice ad n cc) (.slice ap E.pl.length cp) E.pace { R with q := Q.set i (b, cf, s', L') } ∧ Fol w own wr own' ∧ Blk wr RB zP TP ∧ ¬ own' RB ∧ Cor { E with q := EQ.set i (k, cf, s') } { R with q := Q.set i (b, cf, s', L') } ∧ OkE { E with q := EQ.set i (k, cf, s') } c ∧ Mat R cf s'.l L' ∧ runC E.pl E.pace E.now i cf s'.l s' = runC E.pl E.pace E.now i cf s.l s)
    case atStart =>
     have e9 := set_id HX.out
     have e8 := set_self HQ.out
     exact ⟨s, L, own1, Nat.lt_succ_self _, by rw [e8]; exact HL.out.rf, HL.out.fo, HL.out.rb, HL.out.no, by rw [e9, e8]; exact HL.out.co, by rw [e9]; exact HL.out.ok, HMT.out, rfl⟩
    case round =>
     obtain ⟨s1, L1, own2, hhk, h1, h2, h3, h4, h7, h5, h8, h6⟩ := hrel
     obtain ⟨wC, rfl⟩ : ∃ x, x = wr := ⟨_, rfl⟩
     have hxs := (set_parts (y := (k, cf, s1)) HX.out).1
     obtain ⟨hf1, hs1⟩ : OkF cf ∧ OkS cf s1 E.now c := h5.q _ (List.mem_of_getElem? hxs)
     have hqs := gset (y := (b, cf, s1, L1)) HQ.out
     have hCW := HCK.out _ h2.upd
     have hcs1 : cs[i]? = some cf := by rw [← cfs_set (s' := s1) HL.out.cl HX.out]; exact cfs_at hxs
     have HG := Lib.hid (rgoes_any (E := { E with q := EQ.set i (k, cf, s1) }) h1 hCW.1 HNC.out hcs1 hCW.2 h7 h5 hxs)
     dsimp only at HG
     obtain ⟨_, _, _, _, hSt, -⟩ : ∃ (a b' c' d : True), (∃ o, StP wC o b cf s1 L1) ∧ True := ⟨trivial, trivial, trivial, trivial, (let ⟨o, h9, _⟩ := h1.st hqs; ⟨o, h9⟩), trivial⟩
     obtain ⟨o9, hSt⟩ := hSt
     obtain ⟨_, lv, gb, hB, hPR⟩ := hSt.blk
     obtain ⟨al, cl, rfl⟩ := hPR.form
     have kb : wC.cell? ⟨b, 0, none⟩ = some (.slice al L1.length cl) := hB.cellAt rfl
     have HPR := Lib.hid hPR
     have HHK := Lib.hid hhk
     have H1 := Lib.hid h1
     have H2 := Lib.hid h2
     have H3 := Lib.hid h3
     have H4 := Lib.hid h4
     have H5 := Lib.hid h5
     have H6 := Lib.hid h6
     have H7 := Lib.hid h7
     have H8 := Lib.hid h8
     have HXS := Lib.hid hxs
     have HQS := Lib.hid hqs
     have HF1 := Lib.hid hf1
     have HS1 := Lib.hid hs1
     have HCS := Lib.hid hcs1
     clear hhk h1 h2 h3 h4 h5 h6 h7 h8 hxs hqs hf1 hs1 hCW hcs1 hSt hB hPR
     obtain ⟨G, hG⟩ : ∃ G, goesB E.pl E.pace E.now i cf s1 = G := ⟨_, rfl⟩
     rw [hG] at HG
     have HGE := Lib.hid hG
     clear hG k3 hcell
     cases G with
     | false =>
       obtain ⟨ln, hln⟩ : ∃ ln, L1.length = ln := ⟨_, rfl⟩
       rw [hln] at kb
       have hln2 : s1.l.length = ln := by rw [← hln]; exact H8.out.1.symm
       have hw9 : wts ≤ 32768 := by rw [HL.out.wy]; exact sm_le HL.out.ok i
       have hl9 : ln ≤ 4096 := by have := HS1.out.len; have := HF1.out.r2; omega
       obtain ⟨w9, hw9e⟩ : ∃ w9, wts + ln = w9 := ⟨_, rfl⟩
       have e5 : IntKind.i64.wrap ((wts : Int) + (ln : Int)) = (w9 : Int) := by rw [IntKind.wrap_i64]; omega
       have HW9 : Hid (wts + s1.l.length = w9) := Lib.hid (by rw [hln2, hw9e])
       clear hln hln2 hw9 hl9 hw9e
       go_wp2_with fail
       refine (HG.out).mono ?_
       rintro x w2 ⟨rfl, u2⟩
       have kb2 := cell_old u2 kb
       have HU2 := Lib.hid u2
       clear u2 kb
       go_wp2_with fail
       go_roundg (n - i)
       case rel =>
        have hst := runC_stop HGE.out
        have L2 := HL.out.next HX.out (H6.out.symm.trans hst) ((rfC m _ _ E.pace _).kp H1.out HU2.out (fun _ _ h => h)) (H2.out.old HU2.out) (Blk.kept H3.out HU2.out id) H4.out H7.out H5.out
        rw [HW9.out] at L2
        exact ⟨i + 1, _, _, w9, own2, by omega, by omega, rfl, rfl, L2⟩
       case measure => have := HGK.out; omega
     | true =>
       obtain ⟨r, x, t, hl⟩ := goes_cons HGE.out
       have hit := HS1.out.its (r, x) (by rw [hl]; exact List.mem_cons_self ..)
       dsimp only at hit
       have HGO := Lib.hid (fun hd => HS1.out.gone (r := r) (x := x) (t := t) hl hd)
       have HLE := Lib.hid (HS1.out.left_ (r := r) (x := x) (t := t) hl (goes_hv HGE.out))
       have HRG := Lib.hid (fun hd => runC_gone (i := i) hl HGE.out hd)
       have HRL := Lib.hid (fun hd => runC_left (i := i) hl HGE.out hd)
       have hgw9 : cf.policy = 3 → 1 ≤ s1.gw := fun h => by rw [HS1.out.gw1 h, hl]; simp
       have hm8 := H8.out
       rw [hl] at hm8
       obtain ⟨X, T, hL1, hmT, hPX, hAX⟩ := hm8.tail
       obtain ⟨x0, x1, x2, x3, x4⟩ := x
       dsimp only at hit HGO HLE HRG HRL hPX hAX
       subst hL1
       obtain ⟨gl, cl2, he, _, _, c1⟩ := HPR.out.cell (i := 0) rfl
       injection he with he1 he2 he3
       subst he1
       rw [show 0 * 2 + 1 = 1 from rfl] at c1
       dsimp only at c1
       obtain ⟨ln, hln⟩ : ∃ ln, ((if wst cf = true then r else 0, (X : Int)) :: T).length = ln := ⟨_, rfl⟩
       have hl97 : ((if wst cf = true then r else 0, (X : Int)) :: T).length ≤ 4097 := by
        have h1 := HS1.out.len
        have h2 := HF1.out.r2
        have h3 := H8.out.1
        rw [h3]
        omega
       have HRS := fun u (hu : Upd Nowhere wC u) => Lib.hid (Ref09.rest_any (ownsRow_upd HPR.out hu (fun _ _ h => h)) hl97)
       rw [hln] at kb
       simp only [hln, List.tail_cons] at HRS
       have hln0 : 0 < ln := by rw [← hln]; exact Nat.succ_pos _
       have HBY := fun u (hu : Upd Nowhere wC u) => Lib.hid (bytes_any (E := { E with q := EQ.set i (k, cf, s1) }) ((rfC m _ _ E.pace _).kp H1.out hu (fun _ _ h => h)) H7.out H5.out HXS.out)
       obtain ⟨bys, hbys⟩ : ∃ bys, s1.bys = bys := ⟨_, rfl⟩
       rw [hbys] at HGO HLE HRG HRL
       simp only [hbys] at HBY
       obtain ⟨oB, hBB⟩ : ∃ o : Nat → Prop, StP wC o b cf s1 ((if wst cf = true then r else 0, (X : Int)) :: T) := (let ⟨o, h9, _⟩ := H1.out.st HQS.out; ⟨o, h9⟩)
       obtain ⟨_, lv9, gb9, hBb, _⟩ := hBB.blk
       have HBK := Lib.hid hBb
       have HIT := Lib.hid hit
       have HGW := Lib.hid hgw9
       have HLL := Lib.hid hl
       have HMT2 := Lib.hid hmT
       have HPX := Lib.hid hPX
       have HAX := Lib.hid hAX
       have HBYS := Lib.hid hbys
       clear hit hgw9 hl hm8 hmT hPX hAX he2 he3 hln hl97 hbys hBB hBb
       go_wp2_with fail
       refine (HG.out).mono ?_
       rintro y w2 ⟨rfl, u2⟩
       have kb2 := cell_old u2 kb
       have c12 := cell_old u2 c1
       clear kb c1 HG
       go_wp2_with fail
       refine ((HBY _ u2).out).mono ?_
       rintro y w3 ⟨rfl, u3⟩
       have u23 := u2.trans u3 (fun _ _ h => h)
       have kb3 := cell_old u3 kb2
       clear kb2 c12 HBY
       go_wp2_with fail
       refine ((HRS _ u23).out).mono ?_
       rintro y w4 ⟨v4, rfl, hM4⟩
       have u24 := u23.trans hM4.2 (fun _ _ h => h)
       have kb4 : w4.cell? ⟨b, 0, none⟩ = some (.slice (some ⟨gl, 0, none⟩) ln cl) := cell_old hM4.2 kb3
       have f04 : w4.frozen? ⟨b, 0, none⟩ = false := (HBK.out.kept u24 id).free 0
       clear kb3 HRS
       obtain ⟨a4, c4, rfl⟩ := hM4.1.form
       obtain ⟨own5, h9, f9⟩ := RfP.setL (s' := tkn s1 (x0, x1, x2, x3, x4) t) H1.out HQS.out u23 hM4 (fun _ _ => rfl) rfl rfl
       simp only [List.set_set] at h9
       go_upto_region 12 with fail
       clear kb4 f04 u2 u3 u23 u24 hM4
       generalize w4.setCell ⟨b, 0, none⟩ (.slice a4 T.length c4) = w5 at *
       have HRB5 := Lib.hid (f9.blk H3.out H4.out)
       have HNO5 := Lib.hid (f9.off H4.out (Blk.lt H3.out))
       have F5 := Lib.hid (H2.out.trans f9)
       have hq5 := gset (y := (b, cf, tkn s1 (x0, x1, x2, x3, x4) t, T)) HQ.out
       have hRN : R.now = E.now := H7.out.now
       have HGN := Lib.hid (gone_any (bh := bys) h9 (HCK.out _ F5.out.upd).1 HNC.out HCS.out hq5 (X := X) (at_ := x3) HAX.out (by show x3 ≤ R.now; rw [hRN]; exact HIT.out.2.2.1) (by show R.now ≤ _; rw [hRN]; exact HL.out.ok.now) HS1.out.n1 HS1.out.n2 HS1.out.n3)
       dsimp only at HGN
       obtain ⟨⟨dg, d2⟩, hdd⟩ : ∃ d, dropS cf (tkn s1 (x0, x1, x2, x3, x4) t) R.now x3 bys = d := ⟨_, rfl⟩
       rw [hdd] at HGN
       rw [hRN] at hdd
       rw [hdd] at HGO HLE HRG HRL
       dsimp only at HGO HLE HRG HRL HGN
       simp only [List.set_set] at HGN
       obtain ⟨f9', n9, k9, l9, dd9, hde, _, _, _⟩ := Egs.dropS_eq cf (tkn s1 (x0, x1, x2, x3, x4) t) E.now x3 bys HS1.out.n1 HS1.out.n2 HS1.out.n3
       rw [hdd] at hde
       dsimp only at hde
       have HDE := Lib.hid hde
       have HDN : Hid (d2.drp + 1 < 9223372036854775808) := Lib.hid (by rw [hde]; show s1.drp + 1 < _; have := HS1.out.le1; have := HS1.out.in1; have := HCC.out; omega)
       clear h9 f9 hq5 hRN hdd hde
       go_wp2_with fail
       refine (HGN.out).mono ?_
       rintro y w6 ⟨rfl, own6, h13, f13⟩
       have HRB6 := Lib.hid (f13.blk HRB5.out HNO5.out)
       have HNO6 := Lib.hid (f13.off HNO5.out (Blk.lt HRB5.out))
       have F6 := Lib.hid (F5.out.trans f13)
       have H6' := Lib.hid h13
       have hq6 := gset (y := (b, cf, d2, T)) HQ.out
       have HQ6 := Lib.hid hq6
       obtain ⟨o6, hSt6, -⟩ := h13.st hq6
       obtain ⟨_, lv6, gb6, hB6, hPR6⟩ := hSt6.blk
       have HB6 := Lib.hid hB6
       clear h13 f13 hq6 hSt6 hB6 hPR6 HGN HRB5 HNO5 F5
       cases dg with
       | true =>
         obtain ⟨dn, hdn⟩ : ∃ dn, d2.drp + 1 = dn := ⟨_, rfl⟩
         have e1 : IntKind.i64.wrap ((d2.drp : Int) + 1) = (dn : Int) := by rw [IntKind.wrap_i64]; have := HDN.out; omega
         have c15 : w6.cell? ⟨b, 15, none⟩ = some (.int .i64 (d2.drp : Nat)) := HB6.out.cellAt rfl
         have z15 := HB6.out.free 15
         have HDNE := Lib.hid hdn
         clear hdn
         go_wp2_with fail
         go_roundg (s1.l.length)
         case rel =>
          obtain ⟨own7, h14, f14⟩ := RfP.setB (w1 := w6) (w' := w6.setCell ⟨b, 15, none⟩ (.int .i64 (dn : Nat))) (s' := { d2 with drp := d2.drp + 1 }) H6'.out HQ6.out (Upd.refl _ _) ((Upd.refl _ _).setOne 15 _) rfl rfl (fun lv gb hB => by rw [HDNE.out]; simpa using hB.set 15 (.int .i64 (dn : Nat)))
          simp only [List.set_set] at h14
          have hl9 : d2.l = t := by rw [HDE.out]; rfl
          refine ⟨{ d2 with drp := d2.drp + 1 }, T, own7, ?_, h14, F6.out.trans f14, f14.blk HRB6.out HNO6.out, f14.off HNO6.out (Blk.lt HRB6.out), HL.out.co.set HX.out HQ.out (by show Mat R cf d2.l T; rw [hl9]; exact HMT2.out), HL.out.ok.set HX.out (HGO.out trivial), by show Mat R cf d2.l T; rw [hl9]; exact HMT2.out, (HRG.out trivial).symm.trans H6.out⟩
          show d2.l.length < _
          rw [hl9, HLL.out]
          simp
         case measure => have := HHK.out; omega
       | false =>
         obtain ⟨_, hM6, -, ⟨pa, pc, hpv⟩, -, -, hP6, -⟩ := H6'.out.blk
         try dsimp only at hM6 hpv hP6
         obtain ⟨gp, pc2, hpv2, p0, p1, p2⟩ := hP6 X _ _ _ HPX.out
         have k4 : w6.cell? ⟨m, 4, none⟩ = some R.pv := hM6.cellAt rfl
         rw [hpv2] at k4
         obtain ⟨pn, hpn⟩ : ∃ pn, R.P.length = pn := ⟨_, rfl⟩
         have hXl : X < pn := by
          rw [← hpn]
          rcases Nat.lt_or_ge X R.P.length with h' | h'
          · exact h'
          · have h9 := HPX.out; rw [List.getElem?_eq_none h'] at h9; cases h9
         rw [hpn] at k4
         have hX2 : (X : Int) < pn := by omega
         have HLN : Hid (d2.left + 1 < 9223372036854775808) := Lib.hid (by rw [HDE.out]; show s1.left + 1 < _; have := HS1.out.le1; have := HS1.out.in1; have := HCC.out; omega)
         clear hM6 hpv hP6 hpv2 hpn
         go_upto_region 15 with fail
         have hA : Upd Nowhere w6 (w6.alloc (.cells #[.int .u32 x0, .int .u32 x1, .int .u64 x2] TP)) := (Upd.refl _ _).alloc _
         have hPB : Blk (w6.alloc (.cells #[.int .u32 x0, .int .u32 x1, .int .u64 x2] TP)) w6.heap.size #[.int .u32 x0, .int .u32 x1, .int .u64 x2] TP := Blk.new _ _ _
         obtain ⟨PB, hPBe⟩ : ∃ PB, w6.heap.size = PB := ⟨_, rfl⟩
         have HNP : Hid (¬ own6 PB) := Lib.hid (fun h => by have := Sep.lt H6'.out h; omega)
         have hpr : ¬ PB = RB := by have := Blk.lt HRB6.out; omega
         have H7' := Lib.hid ((rfC m _ _ E.pace _).kp H6'.out hA (fun _ _ h => h))
         have HRB7 := Lib.hid (Blk.kept HRB6.out hA id)
         have F7 := Lib.hid (F6.out.old hA)
         have HB7 := Lib.hid (Blk.kept HB6.out hA id)
         rw [hPBe] at hPB
         have HPB := Lib.hid hPB
         clear hA hPB H6' HRB6 F6 HB6 p0 p1 p2 k4
         generalize w6.alloc (.cells #[.int .u32 x0, .int .u32 x1, .int .u64 x2] TP) = w7 at *
         try simp only [hPBe]
         clear hPBe
         obtain ⟨lf, hlf⟩ : ∃ lf, d2.left + 1 = lf := ⟨_, rfl⟩
         have e1 : IntKind.i64.wrap ((d2.left : Int) + 1) = (lf : Int) := by rw [IntKind.wrap_i64]; have := HLN.out; omega
         have c14 : w7.cell? ⟨b, 14, none⟩ = some (.int .i64 (d2.left : Nat)) := HB7.out.cellAt rfl
         have z14 := HB7.out.free 14
         obtain ⟨own8, h8, f8⟩ := RfP.setB (w1 := w7) (w' := w7.setCell ⟨b, 14, none⟩ (.int .i64 (lf : Nat))) (s' := { d2 with left := lf }) H7'.out HQ6.out (Upd.refl _ _) ((Upd.refl _ _).setOne 14 _) rfl rfl (fun lv gb hB => by simpa using hB.set 14 (.int .i64 (lf : Nat)))
         simp only [List.set_set] at h8
         have HLF := Lib.hid hlf
         clear hlf
         go_upto_region 16 with fail
         clear c14 z14 e1
         have HRB8 := Lib.hid (f8.blk HRB7.out HNO6.out)
         have HNO8 := Lib.hid (f8.off HNO6.out (Blk.lt HRB7.out))
         have HPB8 := Lib.hid (f8.blk HPB.out HNP.out)
         have HNP8 := Lib.hid (f8.off HNP.out (Blk.lt HPB.out))
         have F8 := Lib.hid (F7.out.trans f8)
         have H8' := Lib.hid h8
         obtain ⟨hom8, hM8, -⟩ := h8.blk
         try dsimp only at hM8
         have hRN : R.now = E.now := H7.out.now
         have k6 : (w7.setCell ⟨b, 14, none⟩ (.int .i64 (lf : Nat))).cell? ⟨m, 6, none⟩ = some (.int .u64 (E.now : Nat)) := by rw [← hRN]; exact hM8.cellAt rfl
         have k2 : (w7.setCell ⟨b, 14, none⟩ (.int .i64 (lf : Nat))).cell? ⟨m, 2, none⟩ = some (.int .u64 (E.pace : Nat)) := hM8.cellAt rfl
         have q2 : (w7.setCell ⟨b, 14, none⟩ (.int .i64 (lf : Nat))).cell? ⟨PB, 2, none⟩ = some (.int .u64 x2) := HPB8.out.cellAt rfl
         have hmp : m ≠ PB := fun h9 => HNP8.out (by rw [← h9]; exact hom8)
         have HMB := Lib.hid hM8
         clear HRB7 HNO6 HPB HNP F7 H7' HB7 h8 f8 hM8
         generalize w7.setCell ⟨b, 14, none⟩ (.int .i64 (lf : Nat)) = w8 at *
         have HMA := fun u => Lib.hid (Sat.ref_muladd E.now x2 E.pace HL.out.ok.now (by have := HIT.out.2.1; omega) (by have := HL.out.ok.pc2; dsimp only at this; omega) u)
         obtain ⟨bz, hbz⟩ : ∃ bz, min (E.now + x2 * E.pace) 18446744073709551615 = bz := ⟨_, rfl⟩
         rw [hbz] at HMA
         have HBZ : Hid (bsy E x2 = bz) := Lib.hid (by unfold bsy Egs.tks; rw [← hbz]; omega)
         clear hbz hRN
         obtain ⟨nw, hnw⟩ : ∃ nw, E.now = nw := ⟨_, rfl⟩
         obtain ⟨pac, hpac⟩ : ∃ pac, E.pace = pac := ⟨_, rfl⟩
         simp only [hnw, hpac] at HMA
         rw [hnw] at k6
         rw [hpac] at k2
         refine wp_region_held_drew (S := fun w' => Upd (fun q => q = m) w8 w' ∧ w'.cell? ⟨m, 6, none⟩ = some (.int .u64 nw) ∧ w'.cell? ⟨PB, 2, none⟩ = some (.int .u64 x2) ∧ w'.cell? ⟨m, 2, none⟩ = some (.int .u64 pac)) (by kernel_rfl) (tk_old ⟨Upd.refl _ _, k6, q2, k2⟩ ((Upd.refl _ _).drew)) (fun hHeld => ?_)
         refine tkq 0 ?_
         refine tkq 1 ?_
         refine tkq 2 ?_
         refine tkq 3 ?_
         refine tkq 4 ?_
         refine tkq 5 ?_
         refine tkq 6 ?_
         refine tkq 7 ?_
         refine tkq 8 ?_
         refine tkq 9 ?_
         refine tkq 10 ?_
         refine tkq 11 ?_
         refine rdq 12 fun K9 hK => ?_
         go_simp
         refine (HMA _).out.mono ?_
         rintro y w9 ⟨rfl, u9⟩
         refine hK.out _ _ (by (try dsimp only); exact tk_old hHeld u9) (fun hHeld => ?_)
         clear hK K9 k6 k2 q2
         refine tkq 13 ?_
         refine tkq 14 ?_
         have HU9 : Hid (Upd Nowhere w8 w9) := Lib.hid (((Upd.refl _ _).drew).trans u9 (fun _ _ h => h))
         have hB9 := HMB.out.kept HU9.out id
         have f7 := hB9.free 7
         have g7 : w9.cell? ⟨m, 7, none⟩ = some (.int .u64 (R.busy : Nat)) := hB9.cellAt rfl
         have hB10 := hB9.set 7 (.int .u64 bz)
         have hRN : R.now = E.now := H7.out.now
         have hS9 : Upd (fun q => q = m) w8 (w9.setCell ⟨m, 7, none⟩ (.int .u64 bz)) ∧ (w9.setCell ⟨m, 7, none⟩ (.int .u64 bz)).cell? ⟨m, 6, none⟩ = some (.int .u64 nw) ∧ (w9.setCell ⟨m, 7, none⟩ (.int .u64 bz)).cell? ⟨PB, 2, none⟩ = some (.int .u64 x2) ∧ (w9.setCell ⟨m, 7, none⟩ (.int .u64 bz)).cell? ⟨m, 2, none⟩ = some (.int .u64 pac) := by
          refine ⟨hHeld.1.setOne 7 _, ?_, ?_, ?_⟩
          · rw [← hnw, ← hRN]; exact hB10.cellAt rfl
          · rw [World.cell?_setCell_far _ _ _ _ hmp]; exact hHeld.2.2.1
          · rw [← hpac]; exact hB10.cellAt rfl
         clear hB9 hB10 hRN u9
         refine rdq 15 fun K9 hK => ?_
         go_simp
         refine hK.out _ _ (by with_reducible exact hS9) (fun hHeld => ?_)
         clear hK K9
         refine wpAnyH_done (by kernel_rfl) ?_ _
         go_upto_region 17 with fail
         obtain ⟨h10, f10⟩ := RfP.setBusy ((rfC m _ _ E.pace _).kp H8'.out HU9.out (fun _ _ h => h)) bz
         try dsimp only at h10
         have HRB10 := Lib.hid (f10.blk (Blk.kept HRB8.out HU9.out id) HNO8.out)
         have HNO10 := Lib.hid (f10.off HNO8.out (Blk.lt (Blk.kept HRB8.out HU9.out id)))
         have HPB10 := Lib.hid (f10.blk (Blk.kept HPB8.out HU9.out id) HNP8.out)
         have HNP10 := Lib.hid (f10.off HNP8.out (Blk.lt (Blk.kept HPB8.out HU9.out id)))
         have F10 := Lib.hid ((F8.out.old HU9.out).trans f10)
         have H10 := Lib.hid h10
         clear h10 f10 hS9 hHeld f7 g7 HRB8 HNO8 HPB8 HNP8 F8 H8' HMB HMA HU9 hom8
         generalize w9.setCell ⟨m, 7, none⟩ (.int .u64 bz) = w10 at *
         obtain ⟨hom10, hM10, -⟩ := H10.out.blk
         try dsimp only at hM10
         have k0 : w10.cell? ⟨m, 0, none⟩ = some (.slice ad n cc) := hM10.cellAt rfl
         obtain ⟨g, o', had, -, r1, r2, -⟩ := (HCK.out _ F10.out.upd).1.cells HCS.out
         rw [had] at k0
         have HAD := Lib.hid had
         have HQ10 := Lib.hid (gset (y := (b, cf, { d2 with left := lf }, T)) HQ.out)
         obtain ⟨sA, hsA⟩ : ∃ s' : Cs, { d2 with left := lf, hv := if cf.credit = true then d2.hv - cf.send * (x2 : Int) else d2.hv } = s' := ⟨_, rfl⟩
         have HSA := Lib.hid hsA
         clear hM10 had hsA r1
         go_upto_if 109 with fail
         go_cut [11, 12] (fun _ _ wc => ∃ o7, RfP wc o7 m (.slice ad n cc) (.slice ap E.pl.length cp) E.pace { R with q := Q.set i (b, cf, sA, T), busy := bz } ∧ Fol w10 own8 wc o7)
         case first =>
          cases hcd : cf.credit with
          | false =>
            rw [hcd] at r2
            have hsA := HSA.out
            rw [hcd, if_neg (by simp)] at hsA
            go_wp2_with fail
            go_meet
            exact ⟨own8, by rw [← hsA]; exact H10.out, Fol.refl _ _⟩
          | true =>
            rw [hcd] at r2
            have hhv : d2.hv = s1.hv := by rw [HDE.out]; rfl
            have hv0 : 0 ≤ d2.hv := by rw [hhv]; exact goes_hv HGE.out hcd
            have hok : Credit.okc cf.idle cf.send cf.high d2.hv := by rw [hhv]; exact HS1.out.hv1 hcd
            have HSN := fun u => Lib.hid (Ref23.sent_any (n := x2) u hok hv0 HIT.out.2.1)
            obtain ⟨nh, hnh⟩ : ∃ nh, d2.hv - cf.send * (x2 : Int) = nh := ⟨_, rfl⟩
            rw [hnh] at HSN
            have hsA := HSA.out
            rw [hcd, if_pos rfl, hnh] at hsA
            have HSA2 := Lib.hid hsA
            obtain ⟨o10, hSt, -⟩ := H10.out.st HQ10.out
            obtain ⟨_, lv1, gb1, hB, -⟩ := hSt.blk
            have e1 : cri cf = cf.idle := by unfold cri; rw [if_pos hcd]
            have e2 : crs cf = cf.send := by unfold crs; rw [if_pos hcd]
            have e3 : crh cf = cf.high := by unfold crh; rw [if_pos hcd]
            have hF2 : ∀ u, Upd Nowhere w10 u → u.cell? ⟨b, 9, none⟩ = some (.int .i64 cf.idle) ∧ u.cell? ⟨b, 10, none⟩ = some (.int .i64 cf.send) ∧ u.cell? ⟨b, 11, none⟩ = some (.int .i64 cf.high) ∧ u.cell? ⟨b, 12, none⟩ = some (.int .i64 d2.hv) ∧ u.cell? ⟨PB, 2, none⟩ = some (.int .u64 x2) := fun u hu => by
             have h1 := hB.kept hu id
             exact ⟨by rw [← e1]; exact h1.cellAt rfl, by rw [← e2]; exact h1.cellAt rfl, by rw [← e3]; exact h1.cellAt rfl, h1.cellAt rfl, (Blk.kept HPB10.out hu id).cellAt rfl⟩
            have HFF := Lib.hid hF2
            have HE1 := Lib.hid e1
            have HE2 := Lib.hid e2
            have HE3 := Lib.hid e3
            have HBB := Lib.hid hB
            clear hcd hhv hv0 hok hnh hsA hSt hB e1 e2 e3 hF2
            go_upto_region 18 with fail
            go_cut [11, 12] (fun v11 v12 wc => ∃ p, v11 = .pointer (some ⟨p, 0, none⟩) ∧ v12 = .bool true ∧ Upd Nowhere w10 wc ∧ Blk wc p #[.int .i64 cf.idle, .int .i64 cf.send, .int .i64 cf.high, .int .i64 nh] Ref23.TR)
            case first =>
             refine wp_region_held_drew (S := fun w' => Upd Nowhere w10 w' ∧ w'.cell? ⟨b, 9, none⟩ = some (.int .i64 cf.idle) ∧ w'.cell? ⟨b, 10, none⟩ = some (.int .i64 cf.send) ∧ w'.cell? ⟨b, 11, none⟩ = some (.int .i64 cf.high) ∧ w'.cell? ⟨b, 12, none⟩ = some (.int .i64 d2.hv) ∧ w'.cell? ⟨PB, 2, none⟩ = some (.int .u64 x2)) (by kernel_rfl) (gk_start HFF.out ((Upd.refl _ _).drew)) (fun hHeld => ?_)
             refine tkq 0 ?_
             refine tkq 1 ?_
             refine tkq 2 ?_
             refine tkq 3 ?_
             refine tkq 4 ?_
             refine tkq 5 ?_
             refine wpAnyH_ready (rs := [6, 10]) (by kernel_rfl) (by simp) ?_
             refine AllReadyH.cons (by simp only [List.getElem?_toArray, List.getElem?_cons_zero, List.getElem?_cons_succ]; rfl) (fun K9 hK => ?_) (AllReadyH.cons (by simp only [List.getElem?_toArray, List.getElem?_cons_zero, List.getElem?_cons_succ]; rfl) (fun K9 hK => ?_)  AllReadyH.nil)
             · go_simp
               refine (HSN _).out.mono ?_
               rintro y w11 ⟨rfl, u3⟩
               refine hK.out _ _ (by (try dsimp only); exact gk_old HFF.out u3 hHeld) (fun hHeld => ?_)
               clear hK K9
               have HH3 := Lib.hid hHeld
               refine tkq 7 ?_
               refine tkq 8 ?_
               refine tkq 9 ?_
               refine rdq 10 fun K9 hK => ?_
               go_simp
               refine hK.out _ _ (by (try dsimp only); exact gk_old HFF.out ((Upd.refl _ _).alloc _) hHeld) (fun hHeld => ?_)
               clear hK K9
               refine rdq 11 fun K9 hK => ?_
               go_simp
               refine hK.out _ _ (by (try dsimp only); exact gk_old HFF.out ((Upd.refl _ _).alloc _) HH3.out) (fun hHeld => ?_)
               clear hK K9
               refine tkq 12 ?_
               refine wpAnyH_done (by kernel_rfl) ?_ _
               go_wp2_with fail
               go_meet
               exact ⟨_, rfl, rfl, HH3.out.1.alloc _, Blk.new _ _ _⟩
             · go_simp
               refine hK.out _ _ (by (try dsimp only); exact gk_old HFF.out ((Upd.refl _ _).alloc _) hHeld) (fun hHeld => ?_)
               clear hK K9
               refine rdq 6 fun K9 hK => ?_
               go_simp
               refine (HSN _).out.mono ?_
               rintro y w11 ⟨rfl, u3⟩
               have HX3 := Lib.hid (show Blk w11 w10.heap.size #[.int .i64 0, .int .i64 0, .int .i64 0, .int .i64 0] Ref23.TR from Blk.kept (Blk.new w10.drew #[.int .i64 0, .int .i64 0, .int .i64 0, .int .i64 0] Ref23.TR) u3 id)
               refine hK.out _ _ (by (try dsimp only); exact gk_old HFF.out u3 hHeld) (fun hHeld => ?_)
               clear hK K9
               refine tkq 7 ?_
               refine tkq 8 ?_
               refine tkq 9 ?_
               obtain ⟨q0, q1, q2, q3, q4, q5, q6, q7⟩ := cells4 HX3.out
               have hU9 := ((((hHeld.1.setNew (a := ⟨w10.heap.size, 0, none⟩) (Nat.le_refl _) (.int .i64 cf.idle)).setNew (a := ⟨w10.heap.size, 1, none⟩) (Nat.le_refl _) (.int .i64 cf.send)).setNew (a := ⟨w10.heap.size, 2, none⟩) (Nat.le_refl _) (.int .i64 cf.high)).setNew (a := ⟨w10.heap.size, 3, none⟩) (Nat.le_refl _) (.int .i64 nh))
               have hS6 := gk_start HFF.out hU9
               refine rdq 11 fun K9 hK => ?_
               go_simp
               refine hK.out _ _ (by with_reducible exact hS6) (fun hHeld => ?_)
               clear hK K9
               refine tkq 12 ?_
               refine wpAnyH_done (by kernel_rfl) ?_ _
               go_wp2_with fail
               go_meet
               exact ⟨_, rfl, rfl, hU9, by simpa using (((HX3.out.set 0 (.int .i64 cf.idle)).set 1 (.int .i64 cf.send)).set 2 (.int .i64 cf.high)).set 3 (.int .i64 nh)⟩
            case rest =>
             obtain ⟨p, rfl, rfl, hUc, hX9⟩ := hcut
             obtain ⟨w11, rfl⟩ : ∃ x, x = wc := ⟨_, rfl⟩
             obtain ⟨q0, q1, q2, q3, -⟩ := cells4 hX9
             have hB5 := HBB.out.kept hUc id
             have f9 := hB5.free 9
             have f10 := hB5.free 10
             have f11 := hB5.free 11
             have f12 := hB5.free 12
             have g9 : w11.cell? ⟨b, 9, none⟩ = some (.int .i64 (cri cf)) := hB5.cellAt rfl
             have g10 : w11.cell? ⟨b, 10, none⟩ = some (.int .i64 (crs cf)) := hB5.cellAt rfl
             have g11 : w11.cell? ⟨b, 11, none⟩ = some (.int .i64 (crh cf)) := hB5.cellAt rfl
             have g12 : w11.cell? ⟨b, 12, none⟩ = some (.int .i64 d2.hv) := hB5.cellAt rfl
             have HU11 := Lib.hid hUc
             clear hX9 hB5 hUc
             go_wp2_with fail
             go_meet
             obtain ⟨own', t1, t2⟩ := RfP.setB (s' := sA) H10.out HQ10.out HU11.out ((((((Upd.refl _ _).setOne 9 (.int .i64 cf.idle)).setOne 10 (.int .i64 cf.send)).setOne 11 (.int .i64 cf.high)).setOne 12 (.int .i64 nh))) (by rw [← HSA2.out]) (by rw [← HSA2.out]) (fun lv gb hB => by
              have h9 := ((((hB.kept HU11.out id).set 9 (.int .i64 cf.idle)).set 10 (.int .i64 cf.send)).set 11 (.int .i64 cf.high)).set 12 (.int .i64 nh)
              rw [← HSA2.out]
              simp only [SC, HE1.out, HE2.out, HE3.out] at h9 ⊢
              simpa using h9)
             simp only [List.set_set] at t1
             exact ⟨own', t1, t2⟩
         case rest =>
          obtain ⟨o7, h11, f11⟩ := hcut
          obtain ⟨w11, rfl⟩ : ∃ x, x = wc := ⟨_, rfl⟩
          have F11 := Lib.hid (F10.out.trans f11)
          have HRB11 := Lib.hid (f11.blk HRB10.out HNO10.out)
          have HNO11 := Lib.hid (f11.off HNO10.out (Blk.lt HRB10.out))
          have HPB11 := Lib.hid (f11.blk HPB10.out HNP10.out)
          have HNP11 := Lib.hid (f11.off HNP10.out (Blk.lt HPB10.out))
          have H11 := Lib.hid h11
          obtain ⟨_, hM11, -⟩ := h11.blk
          try dsimp only at hM11
          have k0 : w11.cell? ⟨m, 0, none⟩ = some (.slice ad n cc) := hM11.cellAt rfl
          obtain ⟨g2, o2, had2, -, r1, -⟩ := (HCK.out _ F11.out.upd).1.cells HCS.out
          rw [had2] at k0
          have HQ11 := Lib.hid (gset (y := (b, cf, sA, T)) HQ.out)
          have HLV : Hid (leaveS cf d2 x2 = { sA with gw := if cf.policy = 3 then d2.gw - 1 else d2.gw }) := Lib.hid (by rw [← HSA.out]; unfold leaveS; rw [HLF.out])
          have HGW2 : Hid (sA.gw = d2.gw) := Lib.hid (by rw [← HSA.out])
          have HGW3 : Hid (cf.policy = 3 → 1 ≤ d2.gw) := Lib.hid (fun h => by rw [HDE.out]; exact HGW.out h)
          clear h11 f11 hM11 had2 r2 HRB10 HNO10 HPB10 HNP10 F10 H10 HAD HQ10
          go_upto_if 133 with fail
          go_cut [] (fun wc => ∃ o8, RfP wc o8 m (.slice ad n cc) (.slice ap E.pl.length cp) E.pace { R with q := Q.set i (b, cf, leaveS cf d2 x2, T), busy := bz } ∧ Fol w11 o7 wc o8)
          case first =>
           by_cases hp : cf.policy = 3
           · obtain ⟨o9, hSt, -, -, -, hKK⟩ := H11.out.st HQ11.out
             obtain ⟨lv, gb, wv, hB, hG, hKG⟩ := hSt.setG hp
             have c8 : w11.cell? ⟨b, 8, none⟩ = some (.pointer (some ⟨gb, 0, none⟩)) := hB.cellAt rfl
             have c4 : w11.cell? ⟨gb, 4, none⟩ = some (.int .i64 (sA.gw : Nat)) := hG.cellAt rfl
             have z4 := hG.free 4
             have hlv := HLV.out
             rw [if_pos hp] at hlv
             have h3 := HGW3.out hp
             obtain ⟨gw1, hgw1⟩ : ∃ g, d2.gw - 1 = g := ⟨_, rfl⟩
             have e1 : IntKind.i64.wrap ((sA.gw : Int) - 1) = (gw1 : Int) := by
              rw [HGW2.out, IntKind.wrap_i64]
              have h4 := HS1.out.gw1 hp
              have h5 := HS1.out.len
              have h6 := HF1.out.r2
              have h7 : d2.gw = s1.gw := by rw [HDE.out]; rfl
              omega
             rw [hgw1] at hlv
             have hK2 := hKG { sA with gw := gw1 } (by show gw1 ≤ sA.gw; rw [HGW2.out]; omega) rfl (fun _ _ => rfl)
             obtain ⟨o5, t1, t2⟩ := hK2
             obtain ⟨o6, t3, t4⟩ := hKK _ o5 _ T t1 t2
             have HT3 := Lib.hid t3
             have HT4 := Lib.hid t4
             have HLV2 := Lib.hid hlv
             have d3 : (cf.policy == 3) = true := by rw [hp]; rfl
             rw [hp] at r1
             clear hSt hKK hKG hB hG t1 t2 t3 t4 hlv h3 hgw1 d3
             go_wp2_with fail
             go_meet
             have h9 := HT3.out
             simp only [List.set_set] at h9
             exact ⟨o6, by rw [HLV2.out]; exact h9, HT4.out⟩
           · have d3 : (cf.policy == 3) = false := by simpa using hp
             have hlv := HLV.out
             rw [if_neg hp, ← HGW2.out] at hlv
             go_wp2_with fail
             go_meet
             exact ⟨o7, by rw [hlv]; exact H11.out, Fol.refl _ _⟩
          case rest =>
           obtain ⟨o8, h12, f12⟩ := hcut
           obtain ⟨w12, rfl⟩ : ∃ x, x = wc := ⟨_, rfl⟩
           have hrun := HL.out.left_ HX.out (H6.out.symm.trans (HRL.out trivial))
           have hnx := HNXS.out _ _ _ hrun
           have HNXX := Lib.hid hnx
           have F12 := Lib.hid (F11.out.trans f12)
           have hRB := f12.blk HRB11.out HNO11.out
           have hPB := f12.blk HPB11.out HNP11.out
           have HNO12 := Lib.hid (f12.off HNO11.out (Blk.lt HRB11.out))
           have H12 := Lib.hid h12
           obtain ⟨q0, q1, q2, -⟩ := cells3 hPB
           obtain ⟨r0, r1', r2', z0, z1, z2⟩ := cells3 hRB
           have hl9 : (leaveS cf d2 x2).l = t := by show d2.l = t; rw [HDE.out]; rfl
           have hcor : Cor { E with q := EQ.set i (k, cf, leaveS cf d2 x2), busy := bsy E x2 } { R with q := Q.set i (b, cf, leaveS cf d2 x2, T), busy := bz } := by
            have h1 := HL.out.co.set HX.out HQ.out (s' := leaveS cf d2 x2) (L' := T) (by rw [hl9]; exact HMT2.out)
            exact ⟨h1.now, HBZ.out.symm, h1.len, h1.q, h1.pa⟩
           have HCOR := Lib.hid hcor
           have HFIN : Hid (∀ W, Upd (fun q => q = RB) w12 W → RfP W o8 m (.slice ad n cc) (.slice ap E.pl.length cp) E.pace { R with q := Q.set i (b, cf, leaveS cf d2 x2, T), busy := bz } ∧ Fol w own W o8) := Lib.hid (fun W hW => ⟨(rfC m _ _ E.pace _).kp H12.out hW (fun q hq h9 => HNO12.out (by rw [← h9]; exact hq)), F12.out.ret hW HL.out.sz⟩)
           clear h12 f12 hrun hnx hRB hPB hl9 hcor k0 r1
           have hrp : ¬ RB = PB := fun h => hpr h.symm
           go_wp2_with fail
           go_region
           all_goals
            go_wp2_with fail
            refine bodyPost_ret (v := .tuple #[.int .i64 i, VP x0 x1 x2, .int .i64 0]) (by simp [results, Tryz.results30, go_sem, r0, r1', r2']) rfl ⟨by rw [HNXX.out]; rfl, o8, Q.set i (b, cf, leaveS cf d2 x2, T), bz, (HFIN.out _ ?_).1, (HFIN.out _ ?_).2, by rw [HNXX.out]; exact HCOR.out⟩
            all_goals (repeat (first | with_reducible exact Upd.refl _ _ | with_reducible refine Upd.drewN ?_ _ | with_reducible refine Upd.drew ?_ | with_reducible refine Upd.setOne ?_ _ _))
  · obtain rfl : i = n := by omega
    have dI : decide ((i : Int) < i) = false := by simp
    obtain ⟨r0, r1, r2, z0, z1, z2⟩ := cells3 HL.out.rb
    obtain ⟨e1, e2⟩ := HL.out.end_ HN.out.symm
    have hx := HNXN.out EQ e1
    rw [sm_waits, ← e2] at hx
    have HXN := Lib.hid hx
    clear hx e1 e2 hS2 hQn
    by_cases hw0 : wts = 0
    · subst hw0
      go_wp2_with fail
      have hu : Upd (fun q => q = RB) wB (((wB.setCell ⟨RB, 0, none⟩ (.int .u32 0)).setCell ⟨RB, 1, none⟩ (.int .u32 0)).setCell ⟨RB, 2, none⟩ (.int .u64 0)) := (((Upd.refl _ _).setOne 0 _).setOne 1 _).setOne 2 _
      exact bodyPost_ret (v := .tuple #[.int .i64 0, VP 0 0 0, .int .i64 18]) (by simp [results, Tryz.results30, go_sem, r0, r1, r2]) rfl ⟨by rw [HXN.out]; rfl, own1, Q, R.busy, (rfC m _ _ E.pace _).kp HL.out.rf hu (fun q hq h9 => HL.out.no (by rw [← h9]; exact hq)), HL.out.fo.ret hu HL.out.sz, by rw [HXN.out]; exact HL.out.co⟩
    · have d0 : ((wts : Int) == 0) = false := by simp; omega
      go_wp2_with fail
      have hu : Upd (fun q => q = RB) wB (((wB.setCell ⟨RB, 0, none⟩ (.int .u32 0)).setCell ⟨RB, 1, none⟩ (.int .u32 0)).setCell ⟨RB, 2, none⟩ (.int .u64 0)) := (((Upd.refl _ _).setOne 0 _).setOne 1 _).setOne 2 _
      exact bodyPost_ret (v := .tuple #[.int .i64 0, VP 0 0 0, .int .i64 19]) (by simp [results, Tryz.results30, go_sem, r0, r1, r2]) rfl ⟨by rw [HXN.out, if_pos (by simp; omega)]; rfl, own1, Q, R.busy, (rfC m _ _ E.pace _).kp HL.out.rf hu (fun q hq h9 => HL.out.no (by rw [← h9]; exact hq)), HL.out.fo.ret hu HL.out.sz, by rw [HXN.out]; exact HL.out.co⟩
end Go.Proofs.YtdddfmdcjjbegaaGreat.R43

