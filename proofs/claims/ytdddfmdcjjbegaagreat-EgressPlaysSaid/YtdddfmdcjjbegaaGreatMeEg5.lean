/- Eg5, one behind the other. -/
import Derived.Test.YtdddfmdcjjbegaaGreatMeEg4
import Derived.Test.YtdddfmdcjjbegaaGreatMeTk
namespace Go.Proofs.YtdddfmdcjjbegaaGreat.Egs
open Go.RowKit Go.Proofs BigFrame
open RingW (It KI zI ZI VI TE)
open First (Cf VC)
set_option maxHeartbeats 4000000
set_option maxRecDepth 1000000
set_option linter.unusedSimpArgs false
theorem cell_set {w : World} {a b : Addr} {x v : Value} (h : w.cell? a = some x) (hn : b ≠ a) : (w.setCell b v).cell? a = some x := by
 rw [World.cell?_setCell_other w b a v (fun e => hn e)]; exact h
/-- A packet leaves a class. -/
def leaveS (cf : Cf) (s : Cs) (len : Nat) : Cs := { s with hv := if cf.credit = true then s.hv - cf.send * len else s.hv, gw := if cf.policy = 3 then s.gw - 1 else s.gw, left := s.left + 1 }
/-- Till when it is busy then. -/
def bsy (E : Eg) (len : Nat) : Nat := min (E.now + tks E.pace len) 18446744073709551615
theorem EgP.setBusy {w : World} {own : Nat → Prop} {e : Nat} {E : Eg} (h : EgP w own e E) (b : Nat) : EgP (w.setCell ⟨e, 4, none⟩ (.int .u64 (b : Nat))) own e { E with busy := b } ∧ Fol w own (w.setCell ⟨e, 4, none⟩ (.int .u64 (b : Nat))) own := by
 obtain ⟨o1, o2, ⟨hB, ho1⟩, h2, h3, h4⟩ := h
 have hu : Upd (fun q => q = e) w (w.setCell ⟨e, 4, none⟩ (.int .u64 (b : Nat))) := (Upd.refl _ _).setOne 4 _
 have hne : ∀ q, o2 q → ¬ q = e := fun q hq he => h3 e ((ho1 e).2 rfl) (by rw [← he]; exact hq)
 exact ⟨⟨o1, o2, ⟨by simpa using hB.set 4 (.int .u64 (b : Nat)), ho1⟩, h2.kp hu hne, h3, h4⟩, fun q hq => .inl hq, hu.mono fun q _ hq => (h4 q).2 (.inl ((ho1 q).2 hq))⟩
theorem ClsP.gate {w : World} {own : Nat → Prop} {k : Nat} {cf : Cf} {s : Cs} {v gv : Value} (h : Sep w [blkC k (KC cf s v gv) TK, rowC (wst cf) v cf.room.toNat s.inn s.l, gateC cf gv s.gw s.win] own) :
 ∃ o, GateP cf w gv s.gw s.win o ∧ ∀ (w' : World) (o' : Nat → Prop) (g' : Nat) (wi' : List Int), GateP cf w' gv g' wi' o' → Fol w o w' o' → ∃ own', Sep w' [blkC k (KC cf { s with gw := g', win := wi' } v gv) TK, rowC (wst cf) v cf.room.toNat s.inn s.l, gateC cf gv g' wi'] own' ∧ Fol w own w' own' := by
 obtain ⟨o, h1, _, h3⟩ := Sep.foc (gateC cf gv s.gw s.win) [] [blkC k (KC cf s v gv) TK, rowC (wst cf) v cf.room.toNat s.inn s.l] h
 exact ⟨o, h1, fun w' o' g' wi' hG hF => h3 w' o' (gateC cf gv g' wi') hG hF⟩
theorem leave_any {w : World} {own : Nat → Prop} {e : Nat} {E : Eg} {c i k : Nat} {cf : Cf} {s : Cs} (h : EgP w own e E) (hpl : ∀ x ∈ E.pl, x.1 < 256 ∧ x.2 < 18446744073709551616) (hpc : E.pace ≤ 65536) (hnow : E.now ≤ 18446744073709551615) (hc : c < 1000000000) (hx : E.q[i]? = some (k, cf, s)) (hcr : cf.credit = true → Credit.okc cf.idle cf.send cf.high s.hv ∧ 0 ≤ s.hv) (hgw : cf.policy = 3 → 1 ≤ s.gw) (hlf : s.left ≤ c) (p0 p1 p2 : Nat) (hp : p2 ≤ 65535) :
 Calls Tryz.prog 40 #[.pointer (some ⟨e, 0, none⟩), .pointer (some ⟨k, 0, none⟩), VP p0 p1 p2] w fun x w' => x = .returned (.tuple #[]) ∧ ∃ own', EgP w' own' e { E with q := E.q.set i (k, cf, leaveS cf s p2), busy := bsy E p2 } ∧ Fol w own w' own' := by
 obtain ⟨heo, ac, cc, ap, cp, hB, -, -⟩ := h.blk hpl
 have hU : Upd Nowhere w (w.alloc (.cells (PBc p0 p1 p2) TP)) := (Upd.refl _ _).alloc _
 have hPB : Blk (w.alloc (.cells (PBc p0 p1 p2) TP)) w.heap.size (PBc p0 p1 p2) TP := Blk.new _ _ _
 have h0 : EgP (w.alloc (.cells (PBc p0 p1 p2) TP)) own e E := (egC e E).kp h hU (fun _ _ h => h)
 have hlt : ∀ q, own q → q < w.heap.size := fun q hq => (egC e E).lt h hq
 have F0 := Lib.hid ((Fol.refl w own).old hU)
 have HB := Lib.hid (Blk.kept hB hU id)
 obtain ⟨PB, hPBe⟩ : ∃ PB, w.heap.size = PB := ⟨_, rfl⟩
 have HPE := Lib.hid hPBe
 rw [hPBe] at hPB
 have HPB := Lib.hid hPB
 have HNO : Hid (¬ own PB) := Lib.hid (fun h9 => by have := hlt _ h9; omega)
 have hpe : ¬ PB = e := fun h9 => HNO.out (by rw [h9]; exact heo)
 have H0 := Lib.hid h0
 have HTK := fun u (hu : u.cell? ⟨e, 2, none⟩ = some (.int .u64 (E.pace : Nat))) => Lib.hid (takes_any (w := u) (f := p0) (i := p1) (l := p2) hu (by omega) (by omega))
 obtain ⟨tk, htk⟩ : ∃ tk, min (p2 * E.pace) 18446744073709551615 = tk := ⟨_, rfl⟩
 rw [htk] at HTK
 have HAD := fun u => Lib.hid (Bits.sat_add E.now tk u (by omega) (by omega))
 obtain ⟨bz, hbz⟩ : ∃ bz, min (E.now + tk) 18446744073709551615 = bz := ⟨_, rfl⟩
 rw [hbz] at HAD
 have hbsy : bsy E p2 = bz := by unfold bsy tks; rw [htk, hbz]
 rw [hbsy]
 obtain ⟨nw, hnw⟩ : ∃ nw, E.now = nw := ⟨_, rfl⟩
 obtain ⟨pc, hpcq⟩ : ∃ pc, E.pace = pc := ⟨_, rfl⟩
 have c2 : (w.alloc (.cells (PBc p0 p1 p2) TP)).cell? ⟨e, 2, none⟩ = some (.int .u64 pc) := by rw [← hpcq]; exact HB.out.cellAt rfl
 have c3 : (w.alloc (.cells (PBc p0 p1 p2) TP)).cell? ⟨e, 3, none⟩ = some (.int .u64 nw) := by rw [← hnw]; exact HB.out.cellAt rfl
 have c4 : (w.alloc (.cells (PBc p0 p1 p2) TP)).cell? ⟨e, 4, none⟩ = some (.int .u64 (E.busy : Nat)) := HB.out.cellAt rfl
 have z4 := Blk.free HB.out 4
 rw [hnw] at HAD
 rw [hpcq] at HTK
 have hel : e < (w.alloc (.cells (PBc p0 p1 p2) TP)).heap.size := Blk.lt HB.out
 have HX := Lib.hid hx
 have HCR := Lib.hid hcr
 have HGW := Lib.hid hgw
 have HLF := Lib.hid hlf
 have HCC := Lib.hid hc
 have HP2 := Lib.hid hp
 clear h hpl hc hx hcr hgw hlf hp hB hU h0 hlt htk hbz hbsy hnw hpcq hpc hnow heo hPB
 go_enter Tryz.func40, Tryz.ntmps40
 go_upto_region 1 with fail
 obtain ⟨w0, hw0⟩ : ∃ x, x = w.alloc (.cells (PBc p0 p1 p2) TP) := ⟨_, rfl⟩
 rw [← hw0] at HPB F0 HB H0 c2 c3 c4 z4 hel
 generalize w.alloc (.cells (PBc p0 p1 p2) TP) = wz at hw0 ⊢
 subst hw0
 try simp only [HPE.out]
 obtain ⟨b0, b1, b2, -⟩ := cells3 HPB.out
 go_cut [] (fun wc => ∃ w5, Upd Nowhere w0 w5 ∧ wc = w5.setCell ⟨e, 4, none⟩ (.int .u64 (bz : Nat)))
 case first =>
  refine wp_region_held_drew (S := fun w' => w'.cell? ⟨e, 2, none⟩ = some (.int .u64 pc) ∧ w'.cell? ⟨e, 3, none⟩ = some (.int .u64 nw) ∧ w'.cell? ⟨PB, 0, none⟩ = some (.int .u32 p0) ∧ w'.cell? ⟨PB, 1, none⟩ = some (.int .u32 p1) ∧ w'.cell? ⟨PB, 2, none⟩ = some (.int .u64 p2) ∧ w'.cell? ⟨e, 3, none⟩ = some (.int .u64 nw)) (by kernel_rfl) (six_old ⟨c2, c3, b0, b1, b2, c3⟩ ((Upd.refl _ _).drew)) (fun hHeld => ?_)
  refine tkq 0 ?_
  refine tkq 1 ?_
  refine tkq 2 ?_
  refine tkq 3 ?_
  refine tkq 4 ?_
  refine tkq 5 ?_
  refine tkq 6 ?_
  refine rdq 7 fun K hK => ?_
  go_simp
  refine (HTK _ (by have h9 := hHeld.1; exact h9)).out.mono ?_
  rintro x5 w5 ⟨rfl, u5⟩
  have hS5 := six_old hHeld u5
  have u05 : Upd Nowhere w0 w5 := ((Upd.refl _ _).drew).trans u5 (fun _ _ h => h)
  refine hK.out _ _ (by (try dsimp only); exact hS5) (fun hHeld => ?_)
  clear hK K
  refine rdq 8 fun K hK => ?_
  go_simp
  refine (HAD _).out.mono ?_
  rintro x6 w6 ⟨rfl, rfl⟩
  refine hK.out _ _ (by (try dsimp only); exact hHeld) (fun hHeld => ?_)
  clear hK K
  have f4 : w5.frozen? ⟨e, 4, none⟩ = false := (u05.frozen 4 hel id).trans z4
  have y4 := cell_old u05 c4
  refine tkq 9 ?_
  refine tkq 10 ?_
  refine rdq 11 fun K hK => ?_
  go_simp
  obtain ⟨g0, g1, g2, g3, g4, g5⟩ := hHeld
  refine hK.out _ _ ⟨cell_set g0 (by simp), cell_set g1 (by simp), cell_set g2 (by simp [hpe]), cell_set g3 (by simp [hpe]), cell_set g4 (by simp [hpe]), cell_set g5 (by simp)⟩ (fun hHeld => ?_)
  clear hK K
  refine wpAnyH_done (by kernel_rfl) ?_ _
  go_wp2_with fail
  go_meet
  exact ⟨w5, u05, rfl⟩
 case rest =>
  obtain ⟨w5, u5, rfl⟩ := hcut
  obtain ⟨h6, f6⟩ := EgP.setBusy ((egC e E).kp H0.out u5 (fun _ _ h => h)) bz
  have HPB6 := Lib.hid ((Blk.kept HPB.out u5 id).kept f6.upd HNO.out)
  have F6 := Lib.hid ((F0.out.old u5).trans f6)
  obtain ⟨o, hC, hoe, ho, _, hKK⟩ := h6.cls HX.out
  have HKO : Hid (o k) := Lib.hid (hC.blk.1)
  have HOP : Hid (¬ o PB) := Lib.hid (fun h9 => HNO.out (ho _ h9))
  have HKK := Lib.hid hKK
  obtain ⟨v, gv, hS⟩ := hC
  have HS := Lib.hid hS
  obtain ⟨_, _, ⟨hB6, _⟩, _⟩ := hS
  have HB6 := Lib.hid hB6
  clear hKK f6 h6 c2 c3 c4 z4 b0 b1 b2 HTK HAD H0 HB HPB F0 hB6 u5
  generalize w5.setCell ⟨e, 4, none⟩ (.int .u64 (bz : Nat)) = w6 at *
  have k2 := kc2 HB6.out
  obtain ⟨s1, hs1⟩ : ∃ s1 : Cs, { s with hv := if cf.credit = true then s.hv - cf.send * p2 else s.hv } = s1 := ⟨_, rfl⟩
  go_upto_if 21 with fail
  go_cut [] (fun wc => ∃ o7, Sep wc [blkC k (KC cf s1 v gv) TK, rowC (wst cf) v cf.room.toNat s.inn s.l, gateC cf gv s.gw s.win] o7 ∧ Fol w6 o wc o7)
  case first =>
   cases hcd : cf.credit with
   | false =>
     rw [hcd] at k2
     rw [hcd, if_neg (by simp)] at hs1
     go_wp2_with fail
     go_meet
     exact ⟨o, by rw [← hs1]; exact HS.out, Fol.refl _ _⟩
   | true =>
     rw [hcd] at k2
     rw [hcd, if_pos rfl] at hs1
     obtain ⟨hok, hv0⟩ := HCR.out hcd
     have HST := fun u => Lib.hid (Credit.sent_any u hok hv0 HP2.out)
     have e1 : cri cf = cf.idle := by unfold cri; rw [if_pos hcd]
     have e2 : crs cf = cf.send := by unfold crs; rw [if_pos hcd]
     have e3 : crh cf = cf.high := by unfold crh; rw [if_pos hcd]
     have k26 := kc26 HB6.out
     have k27 := kc27 HB6.out
     have k28 := kc28 HB6.out
     have k29 := kc29 HB6.out
     rw [e1] at k26
     rw [e2] at k27
     rw [e3] at k28
     obtain ⟨b0, b1, b2, -⟩ := cells3 HPB6.out
     obtain ⟨nh, hnh⟩ : ∃ nh, s.hv - cf.send * (p2 : Int) = nh := ⟨_, rfl⟩
     rw [hnh] at hs1 HST
     have HE1 := Lib.hid e1
     have HE2 := Lib.hid e2
     have HE3 := Lib.hid e3
     have HS1 := Lib.hid hs1
     clear hok hv0 e1 e2 e3 hnh hs1 hcd
     go_wp2_with fail
     have hPBk : PB ≠ k := fun h9 => HOP.out (by rw [h9]; exact HKO.out)
     have d26 := cell_old ((Upd.refl Nowhere w6).drew) k26
     have d27 := cell_old ((Upd.refl Nowhere w6).drew) k27
     have d28 := cell_old ((Upd.refl Nowhere w6).drew) k28
     have d29 := cell_old ((Upd.refl Nowhere w6).drew) k29
     refine wp_region_held_drew (S := fun w' => w'.cell? ⟨PB, 2, none⟩ = some (.int .u64 p2) ∧ w'.cell? ⟨PB, 2, none⟩ = some (.int .u64 p2) ∧ w'.cell? ⟨PB, 2, none⟩ = some (.int .u64 p2) ∧ w'.cell? ⟨PB, 2, none⟩ = some (.int .u64 p2) ∧ w'.cell? ⟨PB, 2, none⟩ = some (.int .u64 p2) ∧ w'.cell? ⟨PB, 2, none⟩ = some (.int .u64 p2)) (by kernel_rfl) (six_old ⟨b2, b2, b2, b2, b2, b2⟩ ((Upd.refl _ _).drew)) (fun hHeld => ?_)
     refine tkq 0 ?_
     refine tkq 1 ?_
     refine tkq 2 ?_
     refine tkq 3 ?_
     refine tkq 5 ?_
     refine tkq 6 ?_
     refine rdq 4 fun K hK => ?_
     go_simp
     refine hK.out _ _ (by (try dsimp only); exact hHeld) (fun hHeld => ?_)
     clear hK K d26 d27 d28 d29
     refine rdq 7 fun K hK => ?_
     go_simp
     refine (HST _).out.mono ?_
     rintro x w8 ⟨rfl, u8⟩
     have u68 : Upd Nowhere w6 w8 := ((Upd.refl _ _).drew).trans u8 (fun _ _ h => h)
     have hB8 := Blk.kept HB6.out u68 id
     have c26 := kc26 hB8
     have c27 := kc27 hB8
     have c28 := kc28 hB8
     have c29 := kc29 hB8
     have z26 := Blk.free hB8 26
     have z27 := Blk.free hB8 27
     have z28 := Blk.free hB8 28
     have z29 := Blk.free hB8 29
     have HB8 := Lib.hid hB8
     have HU68 := Lib.hid u68
     have hS8 := six_old hHeld u8
     refine hK.out _ _ (by (try dsimp only); exact hS8) (fun hHeld => ?_)
     clear hK K
     clear hB8 u68 u8 k26 k27 k28 k29 b0 b1 b2 HST
     refine tkq 8 ?_
     refine tkq 9 ?_
     refine tkq 10 ?_
     refine tkq 11 ?_
     refine tkq 12 ?_
     refine rdq 13 fun K hK => ?_
     go_simp
     have hS9 := six_set (six_set (six_set (six_set hHeld (a := ⟨k, 26, none⟩) (v := .int .i64 cf.idle) hPBk hPBk hPBk hPBk hPBk hPBk) (a := ⟨k, 27, none⟩) (v := .int .i64 cf.send) hPBk hPBk hPBk hPBk hPBk hPBk) (a := ⟨k, 28, none⟩) (v := .int .i64 cf.high) hPBk hPBk hPBk hPBk hPBk hPBk) (a := ⟨k, 29, none⟩) (v := .int .i64 nh) hPBk hPBk hPBk hPBk hPBk hPBk
     refine hK.out _ _ (by with_reducible exact hS9) (fun hHeld => ?_)
     clear hK K
     refine wpAnyH_done (by kernel_rfl) ?_ _
     go_wp2_with fail
     go_meet
     have hB9 : Blk ((((w8.setCell ⟨k, 26, none⟩ (.int .i64 cf.idle)).setCell ⟨k, 27, none⟩ (.int .i64 cf.send)).setCell ⟨k, 28, none⟩ (.int .i64 cf.high)).setCell ⟨k, 29, none⟩ (.int .i64 nh)) k (KC cf s1 v gv) TK := by
      have h9 := (((HB8.out.set 26 (.int .i64 cf.idle)).set 27 (.int .i64 cf.send)).set 28 (.int .i64 cf.high)).set 29 (.int .i64 nh)
      rw [← HS1.out]
      unfold KC
      simp only [HE1.out, HE2.out, HE3.out]
      simpa using h9
     exact sep_blk HS.out HU68.out (((((Upd.refl _ _).setOne 26 _).setOne 27 _).setOne 28 _).setOne 29 _) hB9
  case rest =>
   obtain ⟨o7, hS7, f7⟩ := hcut
   obtain ⟨w7, rfl⟩ : ∃ x, x = wc := ⟨_, rfl⟩
   have hw1 : s1.win = s.win := by rw [← hs1]
   have hg1 : s1.gw = s.gw := by rw [← hs1]
   have hl1 : s1.l = s.l := by rw [← hs1]
   have hi1 : s1.inn = s.inn := by rw [← hs1]
   have hf1 : s1.left = s.left := by rw [← hs1]
   have hS7' : Sep w7 [blkC k (KC cf s1 v gv) TK, rowC (wst cf) v cf.room.toNat s1.inn s1.l, gateC cf gv s1.gw s1.win] o7 := by rw [hi1, hl1, hg1, hw1]; exact hS7
   obtain ⟨o8, hG, hGK⟩ := ClsP.gate hS7'
   obtain ⟨_, _, ⟨hB7, _⟩, _⟩ := hS7
   have k25 := kc25 hB7
   have F7 := Lib.hid f7
   have HS7 := Lib.hid hS7'
   have HS1 := Lib.hid hs1
   have HI1 := Lib.hid hi1
   have HL1 := Lib.hid hl1
   have HF1 := Lib.hid hf1
   have HGK := Lib.hid hGK
   obtain ⟨s2, hs2⟩ : ∃ s2 : Cs, { s1 with gw := if cf.policy = 3 then s1.gw - 1 else s1.gw } = s2 := ⟨_, rfl⟩
   clear hS7' hB7 f7 hs1 hGK k2 hw1 hl1 hi1 hf1 HS HB6
   unfold GateP at hG
   by_cases hp : cf.policy = 3
   · rw [if_pos hp] at hG
     rw [if_pos hp] at hs2
     obtain ⟨b, rb, rg, rv, rs, rfl, hI, hob⟩ := hG
     obtain ⟨g', hg'⟩ : ∃ g', s1.gw = g' + 1 := ⟨s1.gw - 1, by have := HGW.out hp; omega⟩
     rw [hg'] at hI
     have HT := Lib.hid (Aifo.gtake_some hI)
     have HOB := Lib.hid hob
     have HG' := Lib.hid hg'
     have HSS2 := Lib.hid hs2
     have HPP := Lib.hid hp
     clear hI hob hg' hs2 hg1 hp
     go_wp2_with fail
     refine (HT.out).mono ?_
     rintro x w8 ⟨rfl, hTT⟩
     obtain ⟨rg', rv', rs', t1, t2, t3⟩ := hTT
     obtain ⟨o9, t4, t5⟩ := HGK.out w8 (Aifo.GateOf b rb rg' rv') g' s1.win (by unfold GateP; rw [if_pos HPP.out]; exact ⟨b, rb, rg', rv', rs', rfl, t1, fun _ => Iff.rfl⟩) ⟨fun q hq => (t2 q hq).imp (fun h => (HOB.out q).2 h) id, t3.mono fun q _ hq => (HOB.out q).2 hq⟩
     have e9 : s2 = { s1 with gw := g' } := by rw [← HSS2.out, HG'.out]; rfl
     have hs2 := HSS2.out
     have hS9 : Sep w8 [blkC k (KC cf s2 v (.pointer (some ⟨b, 0, none⟩))) TK, rowC (wst cf) v cf.room.toNat s1.inn s1.l, gateC cf (.pointer (some ⟨b, 0, none⟩)) s2.gw s2.win] o9 := by rw [← HSS2.out, HG'.out]; exact t4
     have f9 := F7.out.trans t5
     obtain ⟨w9, rfl⟩ : ∃ x, x = w8 := ⟨_, rfl⟩
     clear t1 t2 t3 t4 t5 e9 HT
     have hf2 : s2.left = s.left := by rw [← HSS2.out]; exact HF1.out
     have hi2 : s2.inn = s1.inn := by rw [← HSS2.out]
     have hl2 : s2.l = s1.l := by rw [← HSS2.out]
     obtain ⟨_, _, ⟨hB9, _⟩, _⟩ := id hS9
     have k31 := kc31 hB9
     rw [hf2] at k31
     have z31 := Blk.free hB9 31
     obtain ⟨lf, hlf⟩ : ∃ lf, s.left + 1 = lf := ⟨_, rfl⟩
     have e1 : IntKind.i64.wrap ((s.left : Int) + 1) = (lf : Int) := by rw [IntKind.wrap_i64]; have := HLF.out; have := HCC.out; omega
     have HB9 := Lib.hid hB9
     have HS9 := Lib.hid hS9
     have F9 := Lib.hid f9
     have HLFE := Lib.hid hlf
     have HI2 := Lib.hid hi2
     have HL2 := Lib.hid hl2
     clear hB9 hS9 f9 hs2 hf2 hi2 hl2 hlf k25
     go_wp2_with fail
     go_end0
     obtain ⟨o10, t1, t2⟩ := sep_blk (w' := w9.setCell ⟨k, 31, none⟩ (.int .i64 (lf : Nat))) (C' := KC cf { s2 with left := lf } v _) HS9.out (Upd.refl _ _) ((Upd.refl _ _).setOne 31 _) (by simpa using HB9.out.set 31 (.int .i64 (lf : Nat)))
     have e9 : leaveS cf s p2 = { s2 with left := lf } := by
      unfold leaveS
      first | rw [if_pos HPP.out] | rw [if_neg hp]
      rw [← HSS2.out, ← HS1.out, ← HLFE.out]
     obtain ⟨own', t3, t4⟩ := HKK.out _ o10 (leaveS cf s p2) (by
      rw [e9]
      rw [← HI2.out, ← HL2.out] at t1
      exact ⟨v, _, t1⟩) (F9.out.trans t2)
     exact ⟨rfl, own', t3, F6.out.trans t4⟩
   · rw [if_neg hp] at hG
     rw [if_neg hp] at hs2
     obtain ⟨rfl, _⟩ := hG
     obtain ⟨o9, hS9, f9⟩ : ∃ o9, Sep w7 [blkC k (KC cf s2 v (.pointer none)) TK, rowC (wst cf) v cf.room.toNat s1.inn s1.l, gateC cf (.pointer none) s2.gw s2.win] o9 ∧ Fol w6 o w7 o9 := ⟨o7, by rw [← hs2]; exact HS7.out, F7.out⟩
     obtain ⟨w9, rfl⟩ : ∃ x, x = w7 := ⟨_, rfl⟩
     have hf2 : s2.left = s.left := by rw [← hs2]; exact HF1.out
     have hi2 : s2.inn = s1.inn := by rw [← hs2]
     have hl2 : s2.l = s1.l := by rw [← hs2]
     obtain ⟨_, _, ⟨hB9, _⟩, _⟩ := id hS9
     have k31 := kc31 hB9
     rw [hf2] at k31
     have z31 := Blk.free hB9 31
     obtain ⟨lf, hlf⟩ : ∃ lf, s.left + 1 = lf := ⟨_, rfl⟩
     have e1 : IntKind.i64.wrap ((s.left : Int) + 1) = (lf : Int) := by rw [IntKind.wrap_i64]; have := HLF.out; have := HCC.out; omega
     have HB9 := Lib.hid hB9
     have HS9 := Lib.hid hS9
     have F9 := Lib.hid f9
     have HSS2 := Lib.hid hs2
     have HLFE := Lib.hid hlf
     have HI2 := Lib.hid hi2
     have HL2 := Lib.hid hl2
     clear hB9 hS9 f9 hs2 hf2 hi2 hl2 hlf hg1
     go_wp2_with fail
     go_end0
     obtain ⟨o10, t1, t2⟩ := sep_blk (w' := w9.setCell ⟨k, 31, none⟩ (.int .i64 (lf : Nat))) (C' := KC cf { s2 with left := lf } v _) HS9.out (Upd.refl _ _) ((Upd.refl _ _).setOne 31 _) (by simpa using HB9.out.set 31 (.int .i64 (lf : Nat)))
     have e9 : leaveS cf s p2 = { s2 with left := lf } := by
      unfold leaveS
      first | rw [if_pos HPP.out] | rw [if_neg hp]
      rw [← HSS2.out, ← HS1.out, ← HLFE.out]
     obtain ⟨own', t3, t4⟩ := HKK.out _ o10 (leaveS cf s p2) (by
      rw [e9]
      rw [← HI2.out, ← HL2.out] at t1
      exact ⟨v, _, t1⟩) (F9.out.trans t2)
     exact ⟨rfl, own', t3, F6.out.trans t4⟩
end Go.Proofs.YtdddfmdcjjbegaaGreat.Egs

