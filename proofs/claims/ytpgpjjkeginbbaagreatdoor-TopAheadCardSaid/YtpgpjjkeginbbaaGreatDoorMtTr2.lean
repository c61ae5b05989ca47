/- TreeDown, TreePop, TreeCheck, TreeNew0, TreeNew, TreeMade, one behind the other. -/
import Derived.Test.YtpgpjjkeginbbaaGreatDoorMtTr
import Derived.Laws.EntriesVeiled
import Derived.Test.YtpgpjjkeginbbaaGreatDoorMtA
import Derived.Deep.RegionLaw
namespace Go.Proofs.YtpgpjjkeginbbaaGreatDoor.Tree
open Go.RowKit Go.Proofs BigFrame
open HeapE (El VE Hq q_pop)
open WheelR (Ri)
open Cal (ins)
set_option maxHeartbeats 4000000
set_option maxRecDepth 1000000
abbrev TF : TypeId := 116
section
variable {w w' w1 : World} {own own' own1 : Nat → Prop} {L : Lay} {sh : Sh} {room : Nat} {s : TS}
theorem take_ok (h : TIn w own L sh room s) {x r : Nat} {e : El} {t : List (Nat × El)} (hx : x < sh.n) (hq : s.q x = (r, e) :: t) :
 Calls Tryz.prog 32 #[.pointer (some ⟨L.bs x, 0, none⟩)] w fun e' w' => e' = .returned (.tuple #[.int .u64 r, VE e, .bool true]) ∧
  ∃ own', TIn w' own' L sh room { s with q := up s.q x t } ∧ Fol w own w' own' := by
 obtain ⟨o, h1, h2, h3⟩ := h.heap hx
 rw [hq] at h1
 refine (q_pop h1).mono ?_
 rintro e' w' ⟨rfl, ⟨own', g1, g2⟩, g3⟩
 obtain ⟨o2, k1, k2⟩ := h3 w' own' s.c t (Nat.le_refl _) g1 ⟨g2, g3⟩
 exact ⟨rfl, o2, k1, k2⟩
/-- A cell off the tree is written. -/
theorem TIn.aside (h : TIn w own L sh room s) {R : Nat} (hR : ¬ own R) (j : Nat) (v : Value) : TIn (w.setCell ⟨R, j, none⟩ v) own L sh room s :=
 h.kept (S := fun k => k = R) (Upd.setCell (S := fun k => k = R) (Upd.refl _ _) (fun _ => rfl) v) (fun _ hk e => hR (e ▸ hk))
theorem fol3 {w0 : World} {o0 : Nat → Prop} (h : Fol w0 o0 w own) {R : Nat} (hR : w0.heap.size ≤ R) (a b c : Value) : Fol w0 o0 (((w.setCell ⟨R, 0, none⟩ a).setCell ⟨R, 1, none⟩ b).setCell ⟨R, 2, none⟩ c) own :=
 ⟨h.at_, ((h.upd.setNew (a := ⟨R, 0, none⟩) hR a).setNew (a := ⟨R, 1, none⟩) hR b).setNew (a := ⟨R, 2, none⟩) hR c⟩
theorem not_own {w0 : World} {o0 : Nat → Prop} (h : Fol w0 o0 w own) {B : Nat} (hB : ¬ o0 B) (hlt : B < w0.heap.size) : ¬ own B := fun h9 => (h.at_ _ h9).elim hB (fun h8 => absurd hlt (Nat.not_lt.2 h8))
abbrev VP (p : Nat × Nat × Nat) : Value := .agg #[.int .u32 p.1, .int .u32 p.2.1, .int .u64 p.2.2]
theorem down_ok (hs : sh.Ok) {A F : Nat} : ∀ (f : Nat) {w : World} {own : Nat → Prop} {s : TS} {x : Nat}, TIn w own L sh room s → Bal sh s x → x < sh.n → s.q x ≠ [] → sh.n ≤ f + x →
 Blk w A #[.pointer (some ⟨L.b, 0, none⟩)] TPt → Blk w F #[.func (.func 31) #[] #[.pointer (some ⟨A, 0, none⟩), .pointer (some ⟨F, 0, none⟩)]] TF → ¬ own A → ¬ own F →
 Calls Tryz.prog 31 #[.int .i64 x, .pointer (some ⟨A, 0, none⟩), .pointer (some ⟨F, 0, none⟩)] w fun e w' => e = .returned (VP (down sh f s x).1.2) ∧
  ∃ own', TIn w' own' L sh room (down sh f s x).2 ∧ Fol w own w' own'
 | 0, _, _, _, _, _, _, hx, _, hf, _, _, _, _ => absurd hx (by omega)
 | f + 1, w, own, s, x, h, hb, hx, hq, hf, hA, hF, hnA, hnF => by
   have IH := fun {w : World} {own : Nat → Prop} {s : TS} {x : Nat} (h1 : TIn w own L sh room s) => Lib.hid (down_ok hs (A := A) (F := F) f (x := x) h1)
   obtain ⟨a, t, hqx⟩ : ∃ a t, s.q x = a :: t := by
    cases he : s.q x with
    | nil => exact absurd he hq
    | cons a t => exact ⟨a, t, rfl⟩
   obtain ⟨r, e0⟩ := a
   obtain ⟨hk1, hk2⟩ := taken hs hb hx hqx
   have hTK := fun (u : World) (o : Nat → Prop) (hu : TIn u o L sh room s) => Lib.hid (take_ok hu hx hqx)
   obtain ⟨w0, hw0⟩ : ∃ w0, w0 = w.alloc (.cells zp TPk) := ⟨_, rfl⟩
   obtain ⟨h1, hR⟩ := h.box zp TPk
   have hno : ¬ own w.heap.size := fun h9 => absurd (h.lt h9) (Nat.lt_irrefl _)
   have u0 : Upd Nowhere w w0 := by rw [hw0]; exact (Upd.refl _ _).alloc _
   rw [← hw0] at h1 hR
   have hA1 := hA.kept u0 id
   have hF1 := hF.kept u0 id
   obtain ⟨R, hRR⟩ : ∃ R, w.heap.size = R := ⟨_, rfl⟩
   have hRle : w.heap.size ≤ R := by omega
   rw [hRR] at hR hno
   obtain ⟨t0, -⟩ := h1.fields
   obtain ⟨n0, n1, n2, n3, n4, n5, n6, -⟩ := h1.node hx
   obtain ⟨a0, a1⟩ := cells1 hA1
   have hI : (x : Int) < (sh.n : Int) := by omega
   have HTK := Lib.hid (hTK _ _ h1).out
   have F0 : Hid (Fol w own w0 own) := Lib.hid ((Fol.refl _ _).old u0)
   have HR := Lib.hid hR
   have HRL := Lib.hid hRle
   have HNO := Lib.hid hno
   have HA := Lib.hid hA1
   have HF := Lib.hid hF1
   have HNA := Lib.hid hnA
   have HNF := Lib.hid hnF
   have HQ := Lib.hid hqx
   have HK1 := Lib.hid hk1
   have HK2 := Lib.hid hk2
   have hdn : down sh (f + 1) s x = if sh.leaf x = true then (e0, { s with q := up s.q x t }) else down sh f (stepped sh s x r t) e0.1.toNat := by
    simp only [down, hqx, stepped]
   have HDN := Lib.hid hdn
   clear h hb hq hA hF hnA hnF hTK hR hno u0 hA1 hF1 hRle h1 hqx hk1 hk2 hdn
   go_enter Tryz.func31, Tryz.ntmps31
   go_upto_region 1 with fail
   generalize w.alloc (.cells zp TPk) = wz at hw0 ⊢
   subst hw0
   try simp only [hRR]
   go_wp2_with fail
   refine HTK.out.mono ?_
   rintro e w1 ⟨rfl, own1, h1, f1⟩
   have F1 := Lib.hid (F0.out.trans f1)
   have HNO1 := Lib.hid (not_own f1 HNO.out HR.out.lt)
   have HNA1 := Lib.hid (not_own f1 HNA.out HA.out.lt)
   have HNF1 := Lib.hid (not_own f1 HNF.out HF.out.lt)
   have HR1 := Lib.hid (HR.out.kept f1.upd HNO.out)
   have HA1 := Lib.hid (HA.out.kept f1.upd HNA.out)
   have HF1 := Lib.hid (HF.out.kept f1.upd HNF.out)
   obtain ⟨ec, ea, eb, el⟩ := e0
   obtain ⟨h2, hE⟩ := h1.box (ecell ec ea eb el) TE
   obtain ⟨w2, hw2⟩ : ∃ w2, w2 = w1.alloc (.cells (ecell ec ea eb el) TE) := ⟨_, rfl⟩
   have u2 : Upd Nowhere w1 w2 := by rw [hw2]; exact (Upd.refl _ _).alloc _
   rw [← hw2] at h2 hE
   have F2 := Lib.hid (F1.out.old u2)
   have HR2 := Lib.hid (HR1.out.kept u2 id)
   have HA2 := Lib.hid (HA1.out.kept u2 id)
   have HF2 := Lib.hid (HF1.out.kept u2 id)
   have H2 := Lib.hid h2
   have HE2 := Lib.hid hE
   have HNE2 : Hid (¬ own1 w1.heap.size) := Lib.hid (fun h9 => absurd (h1.lt h9) (Nat.lt_irrefl _))
   obtain ⟨EB, hEB⟩ : ∃ EB, w1.heap.size = EB := ⟨_, rfl⟩
   clear t0 n0 n1 n2 n3 n4 n5 n6 a0 a1 HTK h1 f1 F0 HNO HNA HNF HR HA HF F1 HR1 HA1 HF1 h2 hE u2
   go_upto_region 3 with fail
   generalize w1.alloc (.cells (ecell ec ea eb el) TE) = wz at hw2 ⊢
   subst hw2
   try simp only [hEB]
   rw [hEB] at HE2 HNE2
   obtain ⟨lf, hlf⟩ : ∃ lf, sh.leaf x = lf := ⟨_, rfl⟩
   obtain ⟨kd, hkd⟩ : ∃ kd, sh.kind x = kd := ⟨_, rfl⟩
   obtain ⟨t0, -⟩ := H2.out.fields
   obtain ⟨n0, n1, n2, n3, n4, n5, n6, -⟩ := H2.out.node hx
   obtain ⟨b0, b1, b2, b3, -⟩ := cells4 HE2.out
   obtain ⟨r0, r1, r2, y0, y1, y2⟩ := cells3 HR2.out
   obtain ⟨a0, a1⟩ := cells1 HA2.out
   obtain ⟨f0, f1⟩ := cells1 HF2.out
   rw [hlf] at n4
   rw [hkd] at n1
   have HLF := Lib.hid hlf
   have HKD := Lib.hid hkd
   have hdn := HDN.out
   rw [hlf] at hdn
   clear hlf hkd HDN
   cases lf with
   | true =>
     rw [if_pos rfl] at hdn
     have HDN := Lib.hid hdn
     clear hdn
     go_wp2_with fail
     have hW := (((H2.out.aside HNO1.out 0 (.int .u32 ea)).aside HNO1.out 1 (.int .u32 eb)).aside HNO1.out 2 (.int .u64 el))
     have hG := fol3 F2.out HRL.out (.int .u32 ea) (.int .u32 eb) (.int .u64 el)
     exact bodyPost_ret (v := VP (ea, eb, el)) (by simp [results, Tryz.results31, go_sem, r0, r1, r2]) rfl ⟨by rw [HDN.out], own1, by rw [HDN.out]; exact hW, hG⟩
   | false =>
     rw [if_neg (by simp)] at hdn
     obtain ⟨c, hc1, hc2, hc3, hc4, hc5, hc6, hc7⟩ := HK2.out HLF.out
     cases hc4
     have hdn2 : down sh (f + 1) s x = down sh f (stepped sh s x r t) c := by
      rw [hdn]
      congr 1
     obtain ⟨sg1, sg2⟩ := stepped_gone (sh := sh) (s := s) x r t
     have hb2 : Bal sh (stepped sh s x r t) c := by
      unfold stepped
      split
      · exact vi_bal hc6 x hc7
      · exact hc6
     have hne : (stepped sh s x r t).q c ≠ [] := by rw [sg2, up_off _ (by omega)]; exact hc5
     have HB2 := Lib.hid hb2
     have HNE := Lib.hid hne
     clear hb2 hne hdn sg1 sg2 hc5 hc6
     by_cases h3 : kd = 3
     · subst h3
       have zf := H2.out.frozen hx (show 6 < 9 by omega)
       obtain ⟨own3, h3, g3⟩ := H2.out.set hx (show 6 < 9 by omega) (.int .u64 (r : Nat)) sh (stepped sh s x r t) rfl (fun k => by
        rw [stepped, if_pos HKD.out]
        by_cases e : k = x
        · subst e
          rw [if_pos rfl]
          simp [ncell, up]
        · rw [if_neg e]
          simp [ncell, up, e]) (by simp [tcell, stepped, HKD.out]) (by rw [stepped, if_pos HKD.out]) (by rw [stepped, if_pos HKD.out]; rfl)
       have H3 := Lib.hid h3
       have F3 := Lib.hid (F2.out.trans g3)
       have HNO3 := Lib.hid (not_own g3 HNO1.out HR2.out.lt)
       have HNA3 := Lib.hid (not_own g3 HNA1.out HA2.out.lt)
       have HNF3 := Lib.hid (not_own g3 HNF1.out HF2.out.lt)
       have HR3 := Lib.hid (HR2.out.kept g3.upd HNO1.out)
       have HA3 := Lib.hid (HA2.out.kept g3.upd HNA1.out)
       have HF3 := Lib.hid (HF2.out.kept g3.upd HNF1.out)
       have HE3 := Lib.hid (HE2.out.kept g3.upd (fun h9 => HNE2.out h9))
       clear h3 g3
       go_upto_region 7 with fail
       generalize w2.setCell ⟨L.g, x * 9 + 6, none⟩ (.int .u64 (r : Nat)) = w3 at *
       obtain ⟨b0, b1, b2, b3, -⟩ := cells4 HE3.out
       obtain ⟨a0, a1⟩ := cells1 HA3.out
       obtain ⟨f0, f1⟩ := cells1 HF3.out
       have hih := (IH H3.out).out HB2.out hc1 HNE.out (by omega) HA3.out HF3.out HNA3.out HNF3.out
       obtain ⟨PP, hPP⟩ : ∃ PP, down sh f (stepped sh s x r t) c = PP := ⟨_, rfl⟩
       rw [hPP] at hih hdn2
       have HIH := Lib.hid hih
       have HDN := Lib.hid hdn2
       clear hih hPP hdn2
       go_wp2_with fail
       refine HIH.out.mono ?_
       rintro e w4 ⟨rfl, own4, h4, f4⟩
       have F4 := Lib.hid (F3.out.trans f4)
       have HNO4 := Lib.hid (not_own f4 HNO3.out HR3.out.lt)
       have HR4 := Lib.hid (HR3.out.kept f4.upd HNO3.out)
       have H4 := Lib.hid h4
       clear t0 n0 n1 n2 n3 n4 n5 n6 b0 b1 b2 b3 r0 r1 r2 y0 y1 y2 a0 a1 f0 f1 h4 f4 HIH
       obtain ⟨r0, r1, r2, y0, y1, y2⟩ := cells3 HR4.out
       obtain ⟨⟨pc, pa, pb, pl⟩, PS⟩ := PP
       go_wp2_with fail
       have hW := (((H4.out.aside HNO4.out 0 (.int .u32 pa)).aside HNO4.out 1 (.int .u32 pb)).aside HNO4.out 2 (.int .u64 pl))
       have hG := fol3 F4.out HRL.out (.int .u32 pa) (.int .u32 pb) (.int .u64 pl)
       exact bodyPost_ret (v := VP (pa, pb, pl)) (by simp [results, Tryz.results31, go_sem, r0, r1, r2]) rfl ⟨by rw [HDN.out], own4, by rw [HDN.out]; exact hW, hG⟩
     · have q3 : ((kd : Int) == 3) = false := by simp; omega
       have e3 : stepped sh s x r t = { s with q := up s.q x t } := by rw [stepped, if_neg (by rw [HKD.out]; exact h3)]
       have H3 : Hid (TIn w2 own1 L sh room (stepped sh s x r t)) := Lib.hid (by rw [e3]; exact H2.out)
       have F3 := F2
       have HNO3 := HNO1
       have HNA3 := HNA1
       have HNF3 := HNF1
       have HR3 := HR2
       have HA3 := HA2
       have HF3 := HF2
       clear e3 h3
       have hih := (IH H3.out).out HB2.out hc1 HNE.out (by omega) HA3.out HF3.out HNA3.out HNF3.out
       obtain ⟨PP, hPP⟩ : ∃ PP, down sh f (stepped sh s x r t) c = PP := ⟨_, rfl⟩
       rw [hPP] at hih hdn2
       have HIH := Lib.hid hih
       have HDN := Lib.hid hdn2
       clear hih hPP hdn2
       go_wp2_with fail
       refine HIH.out.mono ?_
       rintro e w4 ⟨rfl, own4, h4, f4⟩
       have F4 := Lib.hid (F3.out.trans f4)
       have HNO4 := Lib.hid (not_own f4 HNO3.out HR3.out.lt)
       have HR4 := Lib.hid (HR3.out.kept f4.upd HNO3.out)
       have H4 := Lib.hid h4
       clear t0 n0 n1 n2 n3 n4 n5 n6 b0 b1 b2 b3 r0 r1 r2 y0 y1 y2 a0 a1 f0 f1 h4 f4 HIH
       obtain ⟨r0, r1, r2, y0, y1, y2⟩ := cells3 HR4.out
       obtain ⟨⟨pc, pa, pb, pl⟩, PS⟩ := PP
       go_wp2_with fail
       have hW := (((H4.out.aside HNO4.out 0 (.int .u32 pa)).aside HNO4.out 1 (.int .u32 pb)).aside HNO4.out 2 (.int .u64 pl))
       have hG := fol3 F4.out HRL.out (.int .u32 pa) (.int .u32 pb) (.int .u64 pl)
       exact bodyPost_ret (v := VP (pa, pb, pl)) (by simp [results, Tryz.results31, go_sem, r0, r1, r2]) rfl ⟨by rw [HDN.out], own4, by rw [HDN.out]; exact hW, hG⟩
end
end Go.Proofs.YtpgpjjkeginbbaaGreatDoor.Tree
namespace Go.Proofs.YtpgpjjkeginbbaaGreatDoor.Tree
open Go.RowKit Go.Proofs BigFrame
open HeapE (El VE Hq q_pop q_len)
open WheelR (Ri)
open Cal (ins)
set_option maxHeartbeats 4000000
set_option maxRecDepth 1000000
section
variable {w w' w1 : World} {own own' own1 : Nat → Prop} {L : Lay} {sh : Sh} {room : Nat} {s : TS}
theorem qlen_ok (h : TIn w own L sh room s) {x : Nat} (hx : x < sh.n) : Calls Tryz.prog 30 #[.pointer (some ⟨L.bs x, 0, none⟩)] w fun e w' => e = .returned (.int .i64 ((s.q x).length : Nat)) ∧ w = w' := by
 obtain ⟨o, h1, _, _⟩ := h.heap hx
 exact q_len h1
theorem pop_ok (hs : sh.Ok) (h : TIn w own L sh room s) (hg : Good sh room s) (hr : room ≤ 4096) (hc : s.c + 10000000 < 18446744073709551615) (hT : TabOff w own) {t : Nat} (ht : t ≤ 18446744073709551615) :
 Calls Tryz.prog 9 #[.pointer (some ⟨L.b, 0, none⟩), .int .u64 (t : Nat)] w fun e w' => e = .returned (.tuple #[VP (pop sh s t).1, .int .i64 ((pop sh s t).2.1 : Nat)]) ∧
  ∃ own', TIn w' own' L sh room (pop sh s t).2.2 ∧ Fol w own w' own' := by
 have hmf : ∀ (fn : Fn) (first cap : Array Value) (w : World), (Instr.makeFunc fn first cap).run Tryz.prog w = .ok (.func fn first cap) w := fun _ _ _ _ => rfl
 obtain ⟨R, hR⟩ : ∃ R, pop sh s t = R := ⟨_, rfl⟩
 rw [hR]
 unfold pop at hR
 simp only at hR
 have hgp := pass_good hs hg ht
 have hP := fun (u : World) (o : Nat → Prop) (hu : TIn u o L sh room s) (hTu : TabOff u o) => Lib.hid (pass_ok hs hu hg hr (by omega) hTu ht)
 obtain ⟨s1, hs1⟩ : ∃ s1, pass sh s t = s1 := ⟨_, rfl⟩
 rw [hs1] at hP hR hgp
 obtain ⟨w0, hw0⟩ : ∃ w0, w0 = (w.alloc (.cells #[.pointer (some ⟨L.b, 0, none⟩)] TPt)).alloc (.cells zp TPk) := ⟨_, rfl⟩
 have u0 : Upd Nowhere w w0 := by rw [hw0]; exact ((Upd.refl _ _).alloc _).alloc _
 have hA : Blk w0 w.heap.size #[.pointer (some ⟨L.b, 0, none⟩)] TPt := by rw [hw0]; exact (Blk.new _ _ _).alloc _
 have hB : Blk w0 (w.heap.size + 1) zp TPk := by rw [hw0]; exact Blk.new2 _ _ _ _
 have hno : ¬ own w.heap.size := fun h9 => absurd (h.lt h9) (Nat.lt_irrefl _)
 have hno2 : ¬ own (w.heap.size + 1) := fun h9 => absurd (h.lt h9) (by omega)
 have h1 := h.old u0
 have f0 : Fol w own w0 own := (Fol.refl _ _).old u0
 have hn1 := hs.pos
 have hn2 := hs.le
 obtain ⟨n, hn⟩ : ∃ n, sh.n = n := ⟨_, rfl⟩
 obtain ⟨t0, -⟩ := h1.fields
 rw [hn] at t0 hn1 hn2
 obtain ⟨AB, hAB⟩ : ∃ AB, w.heap.size = AB := ⟨_, rfl⟩
 obtain ⟨RB, hRB⟩ : ∃ RB, AB + 1 = RB := ⟨_, rfl⟩
 rw [hAB] at hA hno
 rw [hAB, hRB] at hB hno2
 have hRL : w.heap.size ≤ RB := by omega
 obtain ⟨a0, a1⟩ := cells1 hA
 obtain ⟨r0, r1, r2, y0, y1, y2⟩ := cells3 hB
 have hz : ((n : Int) == 0) = false := by simp; omega
 have HPA := Lib.hid (hP _ _ h1 (hT.fol f0)).out
 have F0 := Lib.hid f0
 have HA := Lib.hid hA
 have HB := Lib.hid hB
 have HNA := Lib.hid hno
 have HNR := Lib.hid hno2
 have HRL := Lib.hid hRL
 have HG := Lib.hid hgp
 have HRR := Lib.hid hR
 have HN := Lib.hid hn
 have HRB := Lib.hid hRB
 clear h hg hc hT h1 hA hB hno hno2 f0 hgp hP hs1 hR hn hRL u0
 go_enter Tryz.func9, Tryz.ntmps9
 go_upto_region 1 with fail
 generalize (w.alloc (.cells #[.pointer (some ⟨L.b, 0, none⟩)] TPt)).alloc (.cells zp TPk) = wz at hw0 ⊢
 subst hw0
 try simp only [hAB]
 have hrb := HRB.out
 try simp only [hrb]
 clear hrb
 go_wp2_with fail
 refine HPA.out.mono ?_
 rintro e w1 ⟨rfl, own1, h1, f1⟩
 have F1 := Lib.hid (F0.out.trans f1)
 have H1 := Lib.hid h1
 have HA1 := Lib.hid (HA.out.kept f1.upd HNA.out)
 have HB1 := Lib.hid (HB.out.kept f1.upd HNR.out)
 have HNA1 := Lib.hid (not_own f1 HNA.out HA.out.lt)
 have HNR1 := Lib.hid (not_own f1 HNR.out HB.out.lt)
 clear t0 a0 a1 r0 r1 r2 y0 y1 y2 h1 f1 HPA F0 HA HB HNA HNR
 obtain ⟨t0, t1, t2, t3, t4, z⟩ := H1.out.fields
 have z3 := z 3
 rw [HN.out] at t0
 obtain ⟨a0, a1⟩ := cells1 HA1.out
 obtain ⟨r0, r1, r2, y0, y1, y2⟩ := cells3 HB1.out
 obtain ⟨n0, n1, n2, n3, n4, n5, -⟩ := H1.out.node (i := 0) (by rw [HN.out]; exact hn1)
 have n5' : w1.cell? ⟨L.g, 5, none⟩ = some (.pointer (some ⟨L.bs 0, 0, none⟩)) := by simpa using n5
 clear z n0 n1 n2 n3 n4 n5
 have hR := HRR.out
 obtain ⟨m, hm⟩ : ∃ m, s1.m = m := ⟨_, rfl⟩
 rw [hm] at t3
 by_cases hm0 : m = 0
 · rw [if_pos (by rw [hm]; exact hm0)] at hR
   subst hR
   have q0 : ((m : Int) == 0) = true := by simp; omega
   clear hm hm0
   go_wp2_with fail
   have hW := (((H1.out.aside HNR1.out 0 (.int .u32 0)).aside HNR1.out 1 (.int .u32 0)).aside HNR1.out 2 (.int .u64 0))
   have hG := fol3 F1.out HRL.out (.int .u32 0) (.int .u32 0) (.int .u64 0)
   exact bodyPost_ret (v := .tuple #[.agg zp, .int .i64 18]) (by simp [results, Tryz.results9, go_sem, r0, r1, r2]) rfl ⟨rfl, own1, hW, hG⟩
 · rw [if_neg (by rw [hm]; exact hm0)] at hR
   have q0 : ((m : Int) == 0) = false := by simp; omega
   have HQL := Lib.hid (qlen_ok H1.out (x := 0) (by rw [HN.out]; exact hn1))
   have hi0 : (0 : Int) < (n : Int) := by omega
   by_cases hq0 : s1.q 0 = []
   · rw [if_pos hq0] at hR
     subst hR
     rw [hq0] at HQL
     clear hm hm0 hq0
     go_wp2_with fail
     refine HQL.out.mono ?_
     rintro e w2 ⟨rfl, rfl⟩
     go_wp2_with fail
     have hW := (((H1.out.aside HNR1.out 0 (.int .u32 0)).aside HNR1.out 1 (.int .u32 0)).aside HNR1.out 2 (.int .u64 0))
     have hG := fol3 F1.out HRL.out (.int .u32 0) (.int .u32 0) (.int .u64 0)
     exact bodyPost_ret (v := .tuple #[.agg zp, .int .i64 19]) (by simp [results, Tryz.results9, go_sem, r0, r1, r2]) rfl ⟨rfl, own1, hW, hG⟩
   · rw [if_neg hq0] at hR
     obtain ⟨ql, hql⟩ : ∃ ql, (s1.q 0).length = ql := ⟨_, rfl⟩
     have hql0 : 0 < ql := by rw [← hql]; exact List.length_pos_iff.2 hq0
     have q1 : ((ql : Int) == 0) = false := by simp; omega
     rw [hql] at HQL
     obtain ⟨m1, hm1⟩ : ∃ m1, m - 1 = m1 := ⟨_, rfl⟩
     have hm2 : (m : Int) - 1 = (m1 : Int) := by omega
     have hm3 : m ≤ 4096 := by have := HG.out.le; omega
     have HM := Lib.hid hm
     have HM1 := Lib.hid hm1
     have HQ0 := Lib.hid hq0
     have HRR := Lib.hid hR
     clear hm hm1 hq0 hql hR
     go_wp2_with fail
     refine HQL.out.mono ?_
     rintro e w2 ⟨rfl, rfl⟩
     obtain ⟨FB, hFB⟩ : ∃ FB, w1.heap.size = FB := ⟨_, rfl⟩
     obtain ⟨w2, hw2⟩ : ∃ w2, w2 = w1.alloc (.cells #[.func (.func 31) #[] #[.pointer (some ⟨AB, 0, none⟩), .pointer (some ⟨FB, 0, none⟩)]] TF) := ⟨_, rfl⟩
     have u2 : Upd Nowhere w1 w2 := by rw [hw2]; exact (Upd.refl _ _).alloc _
     have hF2 : Blk w2 FB #[.func (.func 31) #[] #[.pointer (some ⟨AB, 0, none⟩), .pointer (some ⟨FB, 0, none⟩)]] TF := by rw [hw2, ← hFB]; exact Blk.new _ _ _
     have hnF : ¬ own1 FB := fun h9 => absurd (H1.out.lt h9) (by omega)
     have H2 := Lib.hid (H1.out.old u2)
     have F2 := Lib.hid (F1.out.old u2)
     have HA2 := Lib.hid (HA1.out.kept u2 id)
     have HB2 := Lib.hid (HB1.out.kept u2 id)
     have HF2 := Lib.hid hF2
     have HNF2 := Lib.hid hnF
     have HFB := Lib.hid hFB
     clear hF2 hnF u2 hFB
     go_upto_region 10 with fail
     have hFB := HFB.out
     simp only [hFB]
     generalize w1.alloc (.cells #[.func (.func 31) #[] #[.pointer (some ⟨AB, 0, none⟩), .pointer (some ⟨FB, 0, none⟩)]] TF) = wz at hw2 ⊢
     subst hw2
     clear t0 t1 t2 t3 t4 z3 a0 a1 r0 r1 r2 y0 y1 y2 n5' hFB
     obtain ⟨t0, t1, t2, t3, t4, z⟩ := H2.out.fields
     rw [HM.out] at t3
     have z3 := z 3
     obtain ⟨a0, a1⟩ := cells1 HA2.out
     obtain ⟨own3, h3, f3⟩ := H2.out.put 3 (.int .i64 (m1 : Nat)) { s1 with m := s1.m - 1 } (by simp [tcell, HM.out, HM1.out]) (fun _ => rfl) rfl rfl
     have H3 := Lib.hid h3
     have F3 := Lib.hid (F2.out.trans f3)
     have HA3 := Lib.hid (HA2.out.kept f3.upd HNA1.out)
     have HB3 := Lib.hid (HB2.out.kept f3.upd HNR1.out)
     have HF3 := Lib.hid (HF2.out.kept f3.upd HNF2.out)
     have HNA3 := Lib.hid (not_own f3 HNA1.out HA2.out.lt)
     have HNR3 := Lib.hid (not_own f3 HNR1.out HB2.out.lt)
     have HNF3 := Lib.hid (not_own f3 HNF2.out HF2.out.lt)
     clear z h3 f3
     go_upto_region 11 with fail
     generalize w2.setCell ⟨L.b, 3, none⟩ (.int .i64 (m1 : Nat)) = w3 at *
     clear t0 t1 t2 t3 t4 z3 a0 a1
     obtain ⟨f0, f1⟩ := cells1 HF3.out
     have HDN := Lib.hid (down_ok hs (A := AB) (F := FB) 32 (x := 0) H3.out (m_bal HG.out.bal _) hs.pos HQ0.out (by have := hs.le; omega) HA3.out HF3.out HNA3.out HNF3.out)
     obtain ⟨PP, hPP⟩ : ∃ PP, down sh 32 { s1 with m := s1.m - 1 } 0 = PP := ⟨_, rfl⟩
     have hR3 := HRR.out
     change ((down sh 32 { s1 with m := s1.m - 1 } 0).1.2, 0, (down sh 32 { s1 with m := s1.m - 1 } 0).2) = R at hR3
     rw [hPP] at HDN hR3
     have HR3 := Lib.hid hR3
     clear hPP hR3
     go_wp2_with fail
     refine HDN.out.mono ?_
     rintro e w4 ⟨rfl, own4, h4, f4⟩
     have F4 := Lib.hid (F3.out.trans f4)
     have HNR4 := Lib.hid (not_own f4 HNR3.out HB3.out.lt)
     have HB4 := Lib.hid (HB3.out.kept f4.upd HNR3.out)
     have H4 := Lib.hid h4
     clear f0 f1 h4 f4 HDN
     obtain ⟨r0, r1, r2, y0, y1, y2⟩ := cells3 HB4.out
     obtain ⟨⟨pc, pa, pb, pl⟩, PS⟩ := PP
     go_wp2_with fail
     have hR := HR3.out
     subst hR
     have hW := (((H4.out.aside HNR4.out 0 (.int .u32 pa)).aside HNR4.out 1 (.int .u32 pb)).aside HNR4.out 2 (.int .u64 pl))
     have hG := fol3 F4.out HRL.out (.int .u32 pa) (.int .u32 pb) (.int .u64 pl)
     exact bodyPost_ret (v := .tuple #[VP (pa, pb, pl), .int .i64 0]) (by simp [results, Tryz.results9, go_sem, r0, r1, r2]) rfl ⟨rfl, own4, hW, hG⟩
end
end Go.Proofs.YtpgpjjkeginbbaaGreatDoor.Tree
namespace Go.Proofs.YtpgpjjkeginbbaaGreatDoor.Tree
open Go.RowKit Go.Proofs BigFrame
set_option maxHeartbeats 4000000
set_option maxRecDepth 1000000
/-- What a node is made of. -/
structure Nd where
 par : Int
 kind : Int
 wt : Nat
 gap : Nat
/-- Nodes in memory. -/
structure NodesAt (w : World) (ad : Option Addr) (l : List Nd) : Prop where
 none : ad = Option.none → l.length = 0
 at_ : ∀ b, ad = some b → 0 < l.length → b.spot = Option.none ∧ ∀ (i : Nat) (a : Nd), l[i]? = some a → w.cell? ⟨b.block, b.off + i * 4, Option.none⟩ = some (.int .i64 a.par) ∧ w.cell? ⟨b.block, b.off + i * 4 + 1, Option.none⟩ = some (.int .i64 a.kind) ∧ w.cell? ⟨b.block, b.off + i * 4 + 2, Option.none⟩ = some (.int .u64 a.wt) ∧ w.cell? ⟨b.block, b.off + i * 4 + 3, Option.none⟩ = some (.int .u64 a.gap)
/-- Whether a node may be the i-th. -/
def okN (i : Nat) (a : Nd) : Bool := decide (1 ≤ a.kind ∧ a.kind ≤ 3 ∧ 0 ≤ a.par ∧ a.par < max (i : Int) 1)
/-- Whether all from the i-th on may be. -/
def okL : Nat → List Nd → Bool
 | _, [] => true
 | i, a :: r => okN i a && okL (i + 1) r
abbrev TNo : TypeId := 27
theorem okL_drop {l : List Nd} {k : Nat} {a : Nd} (h : l[k]? = some a) : okL k (l.drop k) = (okN k a && okL (k + 1) (l.drop (k + 1))) := by
 have hlt : k < l.length := by
  rcases Nat.lt_or_ge k l.length with h' | h'
  · exact h'
  · rw [List.getElem?_eq_none h'] at h; cases h
 rw [List.drop_eq_getElem_cons hlt]
 rw [List.getElem?_eq_getElem hlt] at h
 rw [Option.some.inj h]
 rfl
theorem check_any (ad : Option Addr) (c : Nat) (l : List Nd) (w : World) (h : NodesAt w ad l) (h0 : 0 < l.length) (h1 : l.length ≤ 32) : Calls Tryz.prog 26 #[.slice ad l.length c] w fun e w' => e = .returned (.int .i64 (if okL 0 l then 0 else 6)) ∧ Upd Nowhere w w' := by
 obtain ⟨n, hn⟩ : ∃ n, l.length = n := ⟨_, rfl⟩
 obtain ⟨r, hr⟩ : ∃ r : Int, (if okL 0 l then 0 else 6) = r := ⟨_, rfl⟩
 rw [hr]
 rw [hn] at h0 h1 ⊢
 have t1 : ((n : Int) == 0) = false := by simp; omega
 have t2 : decide ((n : Int) > 32) = false := decide_eq_false (by omega)
 have t3 : decide (32 < n) = false := decide_eq_false (by omega)
 have H := Lib.hid h
 have HN := Lib.hid hn
 have HR : Hid ((if okL 0 (l.drop 0) then 0 else 6) = r) := Lib.hid hr
 clear h hn hr
 go_enter Tryz.func26, Tryz.ntmps26
 go_wp2_with fail
 go_loopw [15] (fun i wr => ∃ k : Nat, i = .int .i64 k ∧ k ≤ n ∧ Hid ((if okL k (l.drop k) then 0 else 6) = r) ∧ Upd Nowhere w wr) (fun i _ => n - (intOf i).toNat)
 case atStart => exact ⟨0, rfl, Nat.zero_le _, HR, Upd.refl _ _⟩
 case round =>
  clear HR
  obtain ⟨k, rfl, hk, hrk, hu⟩ := hrel
  obtain ⟨wB, rfl⟩ : ∃ x, x = wr := ⟨_, rfl⟩
  have HU := Lib.hid hu
  by_cases hlt : k < n
  · have hI : (k : Int) < n := by omega
    obtain ⟨a, ha⟩ : ∃ a, l[k]? = some a := ⟨l[k]'(by rw [HN.out]; exact hlt), by simp⟩
    obtain ⟨g, o, rfl, g0, g1, g2, g3⟩ : ∃ g o, ad = some ⟨g, o, none⟩ ∧ wB.cell? ⟨g, o + k * 4, none⟩ = some (.int .i64 a.par) ∧ wB.cell? ⟨g, o + k * 4 + 1, none⟩ = some (.int .i64 a.kind) ∧ wB.cell? ⟨g, o + k * 4 + 2, none⟩ = some (.int .u64 a.wt) ∧ wB.cell? ⟨g, o + k * 4 + 3, none⟩ = some (.int .u64 a.gap) := by
     cases ad with
     | none => have := H.out.none rfl; rw [HN.out] at this; omega
     | some b =>
       obtain ⟨hs, hc⟩ := H.out.at_ b rfl (by rw [HN.out]; omega)
       obtain ⟨g, o, sp⟩ := b
       simp only at hs
       subst hs
       obtain ⟨q0, q1, q2, q3⟩ := hc k a ha
       exact ⟨g, o, rfl, cell_old hu q0, cell_old hu q1, cell_old hu q2, cell_old hu q3⟩
    have g1' : wB.cell? ⟨g, o + (k * 4 + 1), none⟩ = some (.int .i64 a.kind) := by rw [← Nat.add_assoc]; exact g1
    have g2' : wB.cell? ⟨g, o + (k * 4 + 2), none⟩ = some (.int .u64 a.wt) := by rw [← Nat.add_assoc]; exact g2
    have g3' : wB.cell? ⟨g, o + (k * 4 + 3), none⟩ = some (.int .u64 a.gap) := by rw [← Nat.add_assoc]; exact g3
    have hrk2 := hrk.out
    rw [okL_drop ha] at hrk2
    obtain ⟨ap, ak, aw, ag⟩ := a
    obtain ⟨mx, hmx⟩ : ∃ mx : Int, max (k : Int) 1 = mx := ⟨_, rfl⟩
    have HRK := Lib.hid hrk2
    have HMX := Lib.hid hmx
    simp only at g0 g1 g2 g3 g1' g2' g3'
    clear hrk hrk2 ha hu
    by_cases hok : okN k ⟨ap, ak, aw, ag⟩ = true
    · have h9 := of_decide_eq_true hok
      simp only at h9
      rw [HMX.out] at h9
      have d1 : decide (ak < 1) = false := decide_eq_false (by omega)
      have d2 : decide (ak > 3) = false := decide_eq_false (by omega)
      have d2' : decide (3 < ak) = false := decide_eq_false (by omega)
      have d3 : decide (ap < 0) = false := decide_eq_false (by omega)
      have d4 : decide (ap ≥ mx) = false := decide_eq_false (by omega)
      have d5 : decide (mx ≤ ap) = false := decide_eq_false (by omega)
      have l1 : ap < mx := h9.2.2.2
      have HOK := Lib.hid hok
      clear hok h9
      go_wp2_with fail
      go_roundw
      case rel => exact ⟨k + 1, by first | rfl | go_num, by omega, Lib.hid (by have := HRK.out; rw [HOK.out, Bool.true_and] at this; exact this), HU.out.alloc _⟩
      case measure => simp [intOf]; omega
    · have hr6 : r = 6 := by
       have := HRK.out
       rw [Bool.eq_false_iff.mpr hok, Bool.false_and] at this
       rw [← this]; rfl
      subst hr6
      have h9 : ak < 1 ∨ 1 ≤ ak ∧ 3 < ak ∨ 1 ≤ ak ∧ ak ≤ 3 ∧ ap < 0 ∨ 1 ≤ ak ∧ ak ≤ 3 ∧ 0 ≤ ap ∧ mx ≤ ap := by
       have h8 := of_decide_eq_false (Bool.eq_false_iff.mpr hok)
       simp only [hmx] at h8
       omega
      clear hok HRK
      rcases h9 with h9 | ⟨p1, h9⟩ | ⟨p1, p2, h9⟩ | ⟨p1, p2, p3, h9⟩
      · have d1 : decide (ak < 1) = true := decide_eq_true h9
        go_wp2_with fail
        go_ret
        exact ⟨rfl, HU.out.alloc _⟩
      · have d1 : decide (ak < 1) = false := decide_eq_false (by omega)
        have d2 : decide (ak > 3) = true := decide_eq_true h9
        have d3 : decide (3 < ak) = true := decide_eq_true h9
        go_wp2_with fail
        go_ret
        exact ⟨rfl, HU.out.alloc _⟩
      · have d1 : decide (ak < 1) = false := decide_eq_false (by omega)
        have d2 : decide (ak > 3) = false := decide_eq_false (by omega)
        have d2' : decide (3 < ak) = false := decide_eq_false (by omega)
        have d3 : decide (ap < 0) = true := decide_eq_true h9
        go_wp2_with fail
        go_ret
        exact ⟨rfl, HU.out.alloc _⟩
      · have d1 : decide (ak < 1) = false := decide_eq_false (by omega)
        have d2 : decide (ak > 3) = false := decide_eq_false (by omega)
        have d2' : decide (3 < ak) = false := decide_eq_false (by omega)
        have d3 : decide (ap < 0) = false := decide_eq_false (by omega)
        have d4 : decide (ap ≥ mx) = true := decide_eq_true h9
        have d5 : decide (mx ≤ ap) = true := decide_eq_true h9
        have l1 : ¬ ap < mx := by omega
        go_wp2_with fail
        go_ret
        exact ⟨rfl, HU.out.alloc _⟩
  · obtain rfl : k = n := by omega
    have hI : ¬ (k : Int) < k := by omega
    have e9 := hrk.out
    rw [List.drop_eq_nil_of_le (by rw [HN.out]; exact Nat.le_refl _)] at e9
    have e8 : r = 0 := by rw [← e9]; rfl
    subst e8
    clear hu e9 hrk
    go_wp2_with fail
    go_ret
    exact ⟨rfl, HU.out⟩
end Go.Proofs.YtpgpjjkeginbbaaGreatDoor.Tree
namespace Go.Proofs.YtpgpjjkeginbbaaGreatDoor.Tree
open Go.RowKit Go.Proofs BigFrame
open HeapE (El VE Hq heapC q_new)
open WheelR (Ri Wq wheelC w_new)
set_option maxHeartbeats 4000000
set_option maxRecDepth 1000000
def nth (l : List Nd) (i : Nat) : Nd := l[i]?.getD ⟨0, 1, 0, 0⟩
theorem nth_at {l : List Nd} {i : Nat} {a : Nd} (h : l[i]? = some a) : nth l i = a := by unfold nth; rw [h]; rfl
/-- The shape of nodes, with the leaves as told. -/
def shW (l : List Nd) (lf : Nat → Bool) : Sh := ⟨l.length, fun i => (nth l i).par.toNat, fun i => (nth l i).kind.toNat, fun i => (nth l i).wt, fun i => (nth l i).gap, lf⟩
/-- No node's parent among the first k. -/
def lfK (l : List Nd) (k : Nat) : Nat → Bool := fun i => decide (∀ j, j < k → j ≠ 0 → (nth l j).par.toNat ≠ i)
def shOf (l : List Nd) : Sh := shW l (lfK l l.length)
theorem lfK_zero (l : List Nd) : lfK l 0 = fun _ => true := funext fun _ => decide_eq_true (fun _ hj => absurd hj (Nat.not_lt_zero _))
theorem lfK_one (l : List Nd) : lfK l 1 = lfK l 0 := funext fun i => by
 rw [lfK_zero]; exact decide_eq_true (fun j hj h0 => absurd (by omega : j = 0) h0)
theorem lfK_succ (l : List Nd) {k : Nat} (hk : k ≠ 0) : lfK l (k + 1) = up (lfK l k) (nth l k).par.toNat false := funext fun i => by
 unfold up
 by_cases e : i = (nth l k).par.toNat
 · rw [if_pos e]; exact decide_eq_false (fun h => h k (Nat.lt_succ_self k) hk e.symm)
 · rw [if_neg e]
   unfold lfK
   by_cases h : ∀ j, j < k → j ≠ 0 → (nth l j).par.toNat ≠ i
   · rw [decide_eq_true h]
     refine decide_eq_true (fun j hj h0 e2 => ?_)
     rcases Nat.lt_or_ge j k with h9 | h9
     · exact h j h9 h0 e2
     · obtain rfl : j = k := by omega
       exact e e2.symm
   · rw [decide_eq_false h]
     exact decide_eq_false (fun h9 => h (fun j hj => h9 j (by omega)))
/-- Nothing waits. -/
def s0 : TS := ⟨fun _ => [], fun _ => 0, fun _ => 0, fun _ => 0, [], 0, 0, 0, 0⟩
theorem s0_good (sh : Sh) (room : Nat) : Good sh room s0 :=
 ⟨⟨fun v hv h0 => (by simp [s0, cntE, cntH]; exact h0), fun i hi hl a ha => (by cases ha), fun i hi hl a ha => (by cases ha), fun i hi a ha => (by cases ha), fun a ha => (by cases ha), List.Pairwise.nil, ⟨fun _ => Nat.zero_le _, fun _ => Nat.zero_le _, fun _ => Nat.zero_le _⟩, Nat.le_refl _, Nat.zero_le _⟩, rfl, Nat.zero_le _⟩
theorem okL_at : ∀ {l : List Nd} {k : Nat}, okL k l = true → ∀ {i : Nat} {a : Nd}, l[i]? = some a → okN (k + i) a = true
 | [], _, _, _, _, h => by simp at h
 | b :: l, k, h, i, a, ha => by
   unfold okL at h
   rw [Bool.and_eq_true] at h
   cases i with
   | zero => simp only [List.getElem?_cons_zero] at ha; cases ha; exact h.1
   | succ i =>
     simp only [List.getElem?_cons_succ] at ha
     have := okL_at h.2 ha
     rw [show k + (i + 1) = k + 1 + i by omega]; exact this
/-- Numbers that fit. -/
def FitN (l : List Nd) : Prop := ∀ a ∈ l, a.wt ≤ 18446744073709551615 ∧ a.gap ≤ 18446744073709551615
theorem nth_ok {l : List Nd} (h : okL 0 l = true) {i : Nat} (hi : i < l.length) : 1 ≤ (nth l i).kind ∧ (nth l i).kind ≤ 3 ∧ 0 ≤ (nth l i).par ∧ (nth l i).par < max (i : Int) 1 ∧ nth l i ∈ l := by
 have ha : l[i]? = some (l[i]'hi) := List.getElem?_eq_getElem hi
 have h1 := okL_at h ha
 rw [Nat.zero_add] at h1
 have h2 := of_decide_eq_true h1
 rw [nth_at ha]
 exact ⟨h2.1, h2.2.1, h2.2.2.1, h2.2.2.2, List.getElem_mem hi⟩
theorem shOf_ok {l : List Nd} (h : okL 0 l = true) (h0 : 0 < l.length) (h1 : l.length ≤ 32) (hf : FitN l) : (shOf l).Ok := by
 refine ⟨h0, h1, fun i hi hn => ?_, fun i hi => ?_, fun i hi => ?_, fun i hi => ?_, fun i hi => ?_, fun i hi => ?_⟩
 · have := nth_ok h hi
   show (nth l i).par.toNat < i
   omega
 · have := nth_ok h hi
   show 1 ≤ (nth l i).kind.toNat
   omega
 · have := nth_ok h hi
   show (nth l i).kind.toNat ≤ 3
   omega
 · exact (hf _ (nth_ok h hi).2.2.2.2).1
 · exact (hf _ (nth_ok h hi).2.2.2.2).2
 · show decide _ = true ↔ _
   rw [decide_eq_true_eq]
   exact Iff.rfl
/-- The cells of a node as it is made. -/
def nc (l : List Nd) (bs : Nat → Nat) (i : Nat) : List Value := ncell ⟨0, 0, 0, 0, bs⟩ (shW l (fun _ => true)) s0 i
def bl (l : List Nd) (b hb room k : Nat) (bs : Nat → Nat) (v : Value) : List Comp := [blkC b #[v, .pointer (some ⟨hb, 0, none⟩), .int .u64 0, .int .i64 0, .int .i64 (room : Nat)] TT, rowW TN 9 v k ((List.range k).flatMap (nc l bs)), wheelC hb room 0 0 []] ++ (List.range k).map (fun i => heapC (bs i) room 0 [])
theorem nc_up (l : List Nd) (bs : Nat → Nat) {k B i : Nat} (h : i < k) : nc l (up bs k B) i = nc l bs i := by
 unfold nc ncell
 simp only
 rw [up_off bs (by omega)]
theorem bl_step {w w1 wx w6 : World} {l : List Nd} {b hb room k B : Nat} {bs : Nat → Nat} {v v' : Value} (h : Made w w1 (heapC B room 0 [] :: bl l b hb room k bs v)) (hx : Upd Nowhere w1 wx)
 (ho : w6.ownsRow 0 TN 9 v' (k + 1) ((List.range k).flatMap (nc l bs) ++ nc l (up bs k B) k)) (hu : Upd (fun k => v.ownBlock = some k) wx w6) (hn : OwnOrNew wx v v') :
 Made w (w6.setCell ⟨b, 0, none⟩ v') (bl l b hb room (k + 1) (up bs k B) v') := by
 obtain ⟨o, h1, h2, h3⟩ := Made.foc (rowW TN 9 v k ((List.range k).flatMap (nc l bs))) (wheelC hb room 0 0 [] :: (List.range k).map (fun i => heapC (bs i) room 0 [])) [heapC B room 0 [], blkC b #[v, .pointer (some ⟨hb, 0, none⟩), .int .u64 0, .int .i64 0, .int .i64 (room : Nat)] TT] h
 have e1 : (List.range k).flatMap (nc l bs) ++ nc l (up bs k B) k = (List.range (k + 1)).flatMap (nc l (up bs k B)) := by
  rw [List.range_succ, List.flatMap_append, List.flatMap_singleton]
  congr 1
  rw [List.flatMap_def, List.flatMap_def]
  congr 1
  exact List.map_congr_left fun i hi => (nc_up l bs (List.mem_range.1 hi)).symm
 rw [e1] at ho
 obtain ⟨a1, a2⟩ := rowW_push h1 hx ho hu hn
 have b1 := h3 w6 _ _ a1 a2
 obtain ⟨o2, c1, c2, c3⟩ := Made.foc (blkC b #[v, .pointer (some ⟨hb, 0, none⟩), .int .u64 0, .int .i64 0, .int .i64 (room : Nat)] TT) (rowW TN 9 v' (k + 1) ((List.range (k + 1)).flatMap (nc l (up bs k B))) :: wheelC hb room 0 0 [] :: (List.range k).map (fun i => heapC (bs i) room 0 [])) [heapC B room 0 []] b1
 have d1 := c3 (w6.setCell ⟨b, 0, none⟩ v') o2 (blkC b #[v', .pointer (some ⟨hb, 0, none⟩), .int .u64 0, .int .i64 0, .int .i64 (room : Nat)] TT) ⟨by simpa using c1.1.set 0 v', c1.2⟩ ⟨fun k hk => .inl hk, Upd.setCell (S := o2) (Upd.refl _ _) (fun _ => (c1.2 b).2 rfl) v'⟩
 refine d1.perm ?_
 unfold bl
 rw [List.range_succ, List.map_append]
 have e2 : (List.range k).map (fun i => heapC (up bs k B i) room 0 []) = (List.range k).map (fun i => heapC (bs i) room 0 []) := List.map_congr_left fun i hi => by rw [up_off bs (by have := List.mem_range.1 hi; omega)]
 have e3 : [k].map (fun i => heapC (up bs k B i) room 0 []) = [heapC B room 0 []] := by simp [up_at]
 rw [e2, e3]
 exact (List.perm_append_singleton (heapC B room 0 []) (_ :: _ :: _ :: _)).symm
/-- When all nodes are laid, it is a tree. -/
theorem bl_tree {w w1 : World} {l : List Nd} {b hb room g c : Nat} {bs : Nat → Nat} (h : Made w w1 (bl l b hb room l.length bs (.slice (some ⟨g, 0, none⟩) l.length c))) : ∃ own, TIn w1 own ⟨b, g, c, hb, bs⟩ (shW l (lfK l 0)) room s0 ∧ (∀ k, own k → w.heap.size ≤ k) ∧ Upd Nowhere w w1 := by
 obtain ⟨own, h1, h2, h3⟩ := h
 refine ⟨own, ?_, h2, h3⟩
 rw [lfK_zero]
 exact h1
theorem bl_cells {w w1 : World} {l : List Nd} {b hb room k : Nat} {bs : Nat → Nat} {v : Value} (h : Made w w1 (bl l b hb room k bs v)) : Blk w1 b #[v, .pointer (some ⟨hb, 0, none⟩), .int .u64 0, .int .i64 0, .int .i64 (room : Nat)] TT ∧ w1.ownsRow 0 TN 9 v k ((List.range k).flatMap (nc l bs)) ∧ v.ownBlock ≠ some b ∧ w.heap.size ≤ b := by
 obtain ⟨own, ⟨o, o', h1, ⟨o2, o3, h2, _, _, h4⟩, h5, h6⟩, h7, _⟩ := h
 refine ⟨h1.1, h2.1, fun e => ?_, h7 b ((h6 b).2 (.inl ((h1.2 b).2 rfl)))⟩
 exact h5 b ((h1.2 b).2 rfl) ((h4 b).2 (.inl ((h2.2 b).2 e)))
theorem tree_leaf {w : World} {own : Nat → Prop} {L : Lay} {l : List Nd} {room k : Nat} (h : TIn w own L (shW l (lfK l k)) room s0) (hk : k ≠ 0) (hp : (nth l k).par.toNat < l.length) :
 ∃ own', TIn (w.setCell ⟨L.g, (nth l k).par.toNat * 9 + 4, none⟩ (.bool false)) own' L (shW l (lfK l (k + 1))) room s0 ∧ Fol w own (w.setCell ⟨L.g, (nth l k).par.toNat * 9 + 4, none⟩ (.bool false)) own' :=
 h.set (i := (nth l k).par.toNat) hp (show 4 < 9 by omega) (.bool false) (shW l (lfK l (k + 1))) s0 rfl (fun i => by
  rw [lfK_succ l hk]
  by_cases e : i = (nth l k).par.toNat
  · subst e
    rw [if_pos rfl]
    simp [ncell, shW, up]
  · rw [if_neg e]
    simp [ncell, shW, up, e]) rfl rfl rfl
end Go.Proofs.YtpgpjjkeginbbaaGreatDoor.Tree
namespace Go.Proofs.YtpgpjjkeginbbaaGreatDoor.Tree
open Go.RowKit Go.Proofs BigFrame
open HeapE (El VE Hq heapC q_new)
open WheelR (Ri Wq wheelC w_new)
set_option maxHeartbeats 4000000
set_option maxRecDepth 1000000
abbrev ZN : Value := .agg #[.int .i64 0, .int .i64 0, .int .u64 0, .int .u64 0, .bool false, .pointer none, .int .u64 0, .int .u64 0, .int .u64 0]
theorem infoN : (Tryz.prog.info? TN).map (fun i => (i.zero, i.size, i.bytes)) = some (some ZN, 9, 72) := by kernel_rfl
theorem form9 {w : World} {v : Value} {n : Nat} {xs : List Value} (h : w.ownsRow 0 TN 9 v (n + 1) xs) : ∃ g c, v = .slice (some ⟨g, 0, none⟩) (n + 1) c := by
 rcases h.2 with ⟨_, h0⟩ | ⟨g, c, cur, rfl, _⟩
 · omega
 · exact ⟨g, c, rfl⟩
theorem cells1' {w : World} {b hb room : Nat} {v : Value} (h : Blk w b #[v, .pointer (some ⟨hb, 0, none⟩), .int .u64 0, .int .i64 0, .int .i64 (room : Nat)] TT) : w.cell? ⟨b, 0, none⟩ = some v ∧ w.frozen? ⟨b, 0, none⟩ = false := ⟨h.cellAt rfl, h.free 0⟩
theorem new_ok (ad : Option Addr) (c : Nat) (l : List Nd) (w : World) (room : Nat) (h : NodesAt w ad l) (h0 : 0 < l.length) (h1 : l.length ≤ 32) (hk : okL 0 l = true) (hr1 : 1 ≤ room) (hr2 : room ≤ 4096) (hG : Tryz.tz64_ren.g 1 < w.heap.size) :
 Calls Tryz.prog 8 #[.slice ad l.length c, .int .i64 room] w fun e w' => ∃ L own, e = .returned (.tuple #[.pointer (some ⟨L.b, 0, none⟩), .int .i64 0]) ∧ TIn w' own L (shOf l) room s0 ∧ (∀ k, own k → w.heap.size ≤ k) ∧ Upd Nowhere w w' := by
 obtain ⟨i0, hi, hz0, hz1, hz2⟩ := info_parts infoN
 have hc := check_any ad c l w h h0 h1
 rw [hk] at hc
 have HC := Lib.hid hc
 have HB := fun u (hu : Upd Nowhere w u) => Lib.hid (w_new room hr1 hr2 u (Nat.lt_of_lt_of_le hG hu.size))
 obtain ⟨n, hn⟩ : ∃ n, l.length = n := ⟨_, rfl⟩
 rw [hn] at HC h0 h1 ⊢
 have H := Lib.hid h
 have HK := Lib.hid hk
 have HN := Lib.hid hn
 clear h hc hk hn
 go_enter Tryz.func8, Tryz.ntmps8
 go_wp2_with fail
 refine (HC.out).mono ?_
 rintro e w1 ⟨rfl, u1⟩
 go_wp2_with fail
 refine ((HB _ u1).out).mono ?_
 rintro e w2 ⟨rfl, ⟨o2, hw2, hf2⟩, u2⟩
 obtain ⟨hb, hhb⟩ : ∃ hb, w1.heap.size = hb := ⟨_, rfl⟩
 have hm2 : Made w w2 [wheelC hb room 0 0 []] := by
  have := (Made.start w).old u1
  rw [← hhb]
  exact this.more (C := wheelC w1.heap.size room 0 0 []) hw2 hf2 u2
 have HM2 := Lib.hid hm2
 have hU : Upd Nowhere w w2 := u1.trans u2 (fun _ _ h => h)
 have HU := Lib.hid hU
 have HHB := Lib.hid hhb
 clear hw2 hf2 u1 u2 HC HB hm2 hU hhb
 go_upto_region 8 with fail
 have hhb := HHB.out
 simp only [hhb]
 clear hhb
 obtain ⟨b, hbb⟩ : ∃ b, w2.heap.size = b := ⟨_, rfl⟩
 have hm3 : Made w (w2.alloc (.cells #[.slice none 0 0, .pointer (some ⟨hb, 0, none⟩), .int .u64 0, .int .i64 0, .int .i64 (room : Nat)] TT)) (bl l b hb room 0 (fun _ => 0) (.slice none 0 0)) := by
  have h9 := rowW_start TN 9 HM2.out
  rw [← hbb]
  exact h9.more (C := blkC w2.heap.size #[.slice none 0 0, .pointer (some ⟨hb, 0, none⟩), .int .u64 0, .int .i64 0, .int .i64 (room : Nat)] TT) (o := fun k => k = w2.heap.size) ⟨Blk.new _ _ _, fun _ => Iff.rfl⟩ (fun k hk => by rw [hk]; exact Nat.le_refl _) ((Upd.refl _ _).alloc _)
 generalize w2.alloc (.cells #[.slice none 0 0, .pointer (some ⟨hb, 0, none⟩), .int .u64 0, .int .i64 0, .int .i64 (room : Nat)] TT) = w3 at *
 simp only [hbb]
 have HM3 := Lib.hid hm3
 have HBB := Lib.hid hbb
 clear hm3 HM2 HU hbb
 have hn32 : n ≤ 32 := h1
 go_wp2_with fail
 go_loopw [35] (fun i wr => ∃ k : Nat, ∃ bs v, i = .int .i64 k ∧ k ≤ n ∧ Made w wr (bl l b hb room k bs v)) (fun i _ => n - (intOf i).toNat)
 case atStart => exact ⟨0, _, _, rfl, Nat.zero_le _, HM3.out⟩
 case round =>
  obtain ⟨k, bs, v, rfl, hk, hM⟩ := hrel
  obtain ⟨wB, rfl⟩ : ∃ x, x = wr := ⟨_, rfl⟩
  by_cases hlt : k < n
  · have hI : (k : Int) < n := by omega
    obtain ⟨a, ha⟩ : ∃ a, l[k]? = some a := ⟨l[k]'(by rw [HN.out]; exact hlt), by simp⟩
    have hu := hM.upd
    obtain ⟨g, o, rfl, g0, g1, g2, g3⟩ : ∃ g o, ad = some ⟨g, o, none⟩ ∧ wB.cell? ⟨g, o + k * 4, none⟩ = some (.int .i64 a.par) ∧ wB.cell? ⟨g, o + k * 4 + 1, none⟩ = some (.int .i64 a.kind) ∧ wB.cell? ⟨g, o + k * 4 + 2, none⟩ = some (.int .u64 a.wt) ∧ wB.cell? ⟨g, o + k * 4 + 3, none⟩ = some (.int .u64 a.gap) := by
     cases ad with
     | none => have := H.out.none rfl; rw [HN.out] at this; omega
     | some b =>
       obtain ⟨hs, hc⟩ := H.out.at_ b rfl (by rw [HN.out]; omega)
       obtain ⟨g, o, sp⟩ := b
       simp only at hs
       subst hs
       obtain ⟨q0, q1, q2, q3⟩ := hc k a ha
       exact ⟨g, o, rfl, cell_old hu q0, cell_old hu q1, cell_old hu q2, cell_old hu q3⟩
    have g1' : wB.cell? ⟨g, o + (k * 4 + 1), none⟩ = some (.int .i64 a.kind) := by rw [← Nat.add_assoc]; exact g1
    have g2' : wB.cell? ⟨g, o + (k * 4 + 2), none⟩ = some (.int .u64 a.wt) := by rw [← Nat.add_assoc]; exact g2
    have g3' : wB.cell? ⟨g, o + (k * 4 + 3), none⟩ = some (.int .u64 a.gap) := by rw [← Nat.add_assoc]; exact g3
    have hnth := nth_at ha
    have hok := nth_ok HK.out (i := k) (by rw [HN.out]; exact hlt)
    rw [hnth] at hok
    obtain ⟨ap, ak, aw, ag⟩ := a
    obtain ⟨p, rfl⟩ : ∃ p : Nat, ap = p := ⟨ap.toNat, by have : 0 ≤ ap := hok.2.2.1; omega⟩
    obtain ⟨kd, rfl⟩ : ∃ kd : Nat, ak = kd := ⟨ak.toNat, by have : 1 ≤ ak := hok.1; omega⟩
    simp only at g0 g1 g2 g3 g1' g2' g3'
    have HNT := Lib.hid hnth
    have HM := Lib.hid hM
    clear ha hu hnth hok hM HM3
    go_upto_region 11 with fail
    obtain ⟨CB, hCB⟩ : ∃ CB, wB.heap.size = CB := ⟨_, rfl⟩
    have hX4 : Blk (wB.alloc (.cells #[.int .i64 (p : Nat), .int .i64 (kd : Nat), .int .u64 (aw : Nat), .int .u64 (ag : Nat)] TNo)) CB #[.int .i64 (p : Nat), .int .i64 (kd : Nat), .int .u64 (aw : Nat), .int .u64 (ag : Nat)] TNo := by rw [← hCB]; exact Blk.new _ _ _
    have hM4 := HM.out.old ((Upd.refl _ _).alloc (.cells #[.int .i64 (p : Nat), .int .i64 (kd : Nat), .int .u64 (aw : Nat), .int .u64 (ag : Nat)] TNo))
    generalize wB.alloc (.cells #[.int .i64 (p : Nat), .int .i64 (kd : Nat), .int .u64 (aw : Nat), .int .u64 (ag : Nat)] TNo) = w4 at *
    simp only [hCB]
    have HX4 := Lib.hid hX4
    have HM4 := Lib.hid hM4
    have HQN := Lib.hid (q_new room w4 hr1 hr2)
    clear hX4 hM4 hCB HM g0 g1 g2 g3 g1' g2' g3'
    go_wp2_with fail
    refine HQN.out.mono ?_
    rintro e w5 ⟨rfl, ⟨oq, hq5, hf5⟩, u5⟩
    obtain ⟨HB, hHB⟩ : ∃ HB, w4.heap.size = HB := ⟨_, rfl⟩
    have hM5 : Made w w5 (heapC HB room 0 [] :: bl l b hb room k bs v) := by
     rw [← hHB]; exact HM4.out.more (C := heapC w4.heap.size room 0 []) hq5 hf5 u5
    obtain ⟨hB5, hrow5, hof5, hle5⟩ := bl_cells hM5.drop
    obtain ⟨av, cv, rfl⟩ : ∃ av cv, v = .slice av k cv := by
     rcases hrow5.2 with ⟨rfl, h0⟩ | ⟨g, c, cur, rfl, _⟩
     · exact ⟨none, 0, by rw [h0]⟩
     · exact ⟨_, _, rfl⟩
    have hX5 := HX4.out.kept u5 id
    have hnc : nc l (up bs k HB) k = [.int .i64 (p : Nat), .int .i64 (kd : Nat), .int .u64 (aw : Nat), .int .u64 (ag : Nat), .bool true, .pointer (some ⟨HB, 0, none⟩), .int .u64 0, .int .u64 0, .int .u64 0] := by
     unfold nc ncell
     simp only [shW, HNT.out, up_at, s0]
     rfl
    have HM5 := Lib.hid hM5
    have HB5 := Lib.hid hB5
    have HROW5 := Lib.hid hrow5
    have HOF5 := Lib.hid hof5
    have HNC := Lib.hid hnc
    have hk9 : k ≤ 999999999 := by omega
    go_upto_region 12 with fail
    try simp only [hHB]
    obtain ⟨x0, x1, x2, x3, -⟩ := cells4 hX5
    obtain ⟨c0, z0⟩ := cells1' hB5
    have a0 : (w5.alloc (.cells #[.int .i64 (p : Nat), .int .i64 (kd : Nat), .int .u64 (aw : Nat), .int .u64 (ag : Nat), .bool true, .pointer (some ⟨HB, 0, none⟩), .int .u64 0, .int .u64 0, .int .u64 0] TN)).cell? ⟨b, 0, none⟩ = some (.slice av k cv) := cell_old ((Upd.refl _ _).alloc _) c0
    clear hX5 hM5 hB5 hrow5 hof5 hnc hq5 hf5 u5 hHB HX4 HM4 HQN HNT hle5
    go_region_law (refine step_push rfl _ _ 106 rfl 0 TN i0 ZN 9 72 Tryz.underlying106 hi hz0 hz1 hz2 rfl (by decide) (by decide) (.slice av k cv) k _ rfl (ownsRow_upd HROW5.out (by repeat (first | with_reducible exact Upd.refl _ _ | with_reducible refine Upd.drew ?_ | with_reducible refine Upd.alloc ?_ _)) (fun _ _ h => h)) w5.heap.size 1 [.int .i64 (p : Nat), .int .i64 (kd : Nat), .int .u64 (aw : Nat), .int .u64 (ag : Nat), .bool true, .pointer (some ⟨HB, 0, none⟩), .int .u64 0, .int .u64 0, .int .u64 0] rfl rfl (new_cells w5 #[.int .i64 (p : Nat), .int .i64 (kd : Nat), .int .u64 (aw : Nat), .int .u64 (ag : Nat), .bool true, .pointer (some ⟨HB, 0, none⟩), .int .u64 0, .int .u64 0, .int .u64 0] _) (by simp [Value.oneCell']) hk9 (Nat.zero_le _) ?_; intro v6 w6 hown6 hu6 hn6; have H6 := Lib.hid (bl_step HM5.out (by repeat (first | with_reducible exact Upd.refl _ _ | with_reducible refine Upd.drew ?_ | with_reducible refine Upd.alloc ?_ _)) (by rw [HNC.out]; exact hown6) hu6 hn6); obtain ⟨g6, c6, rfl⟩ := form9 hown6; obtain ⟨y0, y1⟩ := cells1' ((HB5.out.kept (show Upd Nowhere w5 _ from (by repeat (first | with_reducible exact Upd.refl _ _ | with_reducible refine Upd.drew ?_ | with_reducible refine Upd.alloc ?_ _))) id).kept hu6 HOF5.out); clear hown6 hu6 hn6 c0 z0 a0)
    all_goals
     go_wp2_with fail
     go_roundw
     case rel => exact ⟨k + 1, _, _, by first | rfl | go_num, by omega, H6.out⟩
     case measure => simp [intOf]; omega
  · obtain rfl : k = n := by omega
    have hI : ¬ (k : Int) < k := by omega
    obtain ⟨g, c2, rfl⟩ : ∃ g c2, v = .slice (some ⟨g, 0, none⟩) k c2 := by
     rcases (bl_cells hM).2.1.2 with ⟨_, h9⟩ | ⟨g, c, cur, rfl, _⟩
     · omega
     · exact ⟨_, _, rfl⟩
    have hM9 : Made w wB (bl l b hb room l.length bs (.slice (some ⟨g, 0, none⟩) l.length c2)) := by rw [HN.out]; exact hM
    obtain ⟨own9, h9, hf9, hu9⟩ := bl_tree hM9
    obtain ⟨L, hL⟩ : ∃ L : Lay, (⟨b, g, c2, hb, bs⟩ : Lay) = L := ⟨_, rfl⟩
    have hLb : L.b = b := by rw [← hL]
    rw [hL] at h9
    have H9 := Lib.hid h9
    have F9 := Lib.hid hf9
    have U9 := Lib.hid hu9
    clear hM hM9 h9 hf9 hu9 HM3 hL
    go_wp2_with fail
    go_loopw [59] (fun i wr => ∃ k2 : Nat, ∃ own, i = .int .i64 k2 ∧ k2 ≤ k ∧ TIn wr own L (shW l (lfK l k2)) room s0 ∧ (∀ q, own q → w.heap.size ≤ q) ∧ Upd Nowhere w wr) (fun i _ => k - (intOf i).toNat)
    case atStart => exact ⟨0, own9, rfl, Nat.zero_le _, H9.out, F9.out, U9.out⟩
    case round =>
     obtain ⟨k2, own2, rfl, hk2, hTI, hF2, hU2⟩ := hrel
     obtain ⟨wC, rfl⟩ : ∃ x, x = wr := ⟨_, rfl⟩
     clear H9 F9 U9
     by_cases hlt2 : k2 < k
     · have hI2 : (k2 : Int) < k := by omega
       obtain ⟨a, ha⟩ : ∃ a, l[k2]? = some a := ⟨l[k2]'(by rw [HN.out]; exact hlt2), by simp⟩
       obtain ⟨ga, o, rfl, g0, g1, g2, g3⟩ : ∃ g o, ad = some ⟨g, o, none⟩ ∧ wC.cell? ⟨g, o + k2 * 4, none⟩ = some (.int .i64 a.par) ∧ wC.cell? ⟨g, o + k2 * 4 + 1, none⟩ = some (.int .i64 a.kind) ∧ wC.cell? ⟨g, o + k2 * 4 + 2, none⟩ = some (.int .u64 a.wt) ∧ wC.cell? ⟨g, o + k2 * 4 + 3, none⟩ = some (.int .u64 a.gap) := by
        cases ad with
        | none => have := H.out.none rfl; rw [HN.out] at this; omega
        | some b =>
          obtain ⟨hs, hc⟩ := H.out.at_ b rfl (by rw [HN.out]; omega)
          obtain ⟨g, o, sp⟩ := b
          simp only at hs
          subst hs
          obtain ⟨q0, q1, q2, q3⟩ := hc k2 a ha
          exact ⟨g, o, rfl, cell_old hU2 q0, cell_old hU2 q1, cell_old hU2 q2, cell_old hU2 q3⟩
       have g1' : wC.cell? ⟨ga, o + (k2 * 4 + 1), none⟩ = some (.int .i64 a.kind) := by rw [← Nat.add_assoc]; exact g1
       have g2' : wC.cell? ⟨ga, o + (k2 * 4 + 2), none⟩ = some (.int .u64 a.wt) := by rw [← Nat.add_assoc]; exact g2
       have g3' : wC.cell? ⟨ga, o + (k2 * 4 + 3), none⟩ = some (.int .u64 a.gap) := by rw [← Nat.add_assoc]; exact g3
       have hnth := nth_at ha
       have hok := nth_ok HK.out (i := k2) (by rw [HN.out]; exact hlt2)
       rw [hnth] at hok
       obtain ⟨ap, ak, aw, ag⟩ := a
       obtain ⟨p, rfl⟩ : ∃ p : Nat, ap = p := ⟨ap.toNat, by have : 0 ≤ ap := hok.2.2.1; omega⟩
       obtain ⟨kd, rfl⟩ : ∃ kd : Nat, ak = kd := ⟨ak.toNat, by have : 1 ≤ ak := hok.1; omega⟩
       simp only at g0 g1 g2 g3 g1' g2' g3'
       have hpk : p < k := by have : (p : Int) < max (k2 : Int) 1 := hok.2.2.2.1; omega
       have hnp : (nth l k2).par.toNat = p := by rw [hnth]; rfl
       have HNP := Lib.hid hnp
       have H2 := Lib.hid hTI
       have F2 := Lib.hid hF2
       have U2 := Lib.hid hU2
       clear ha hnth hok hTI hF2 hU2 hnp
       by_cases hk0 : k2 = 0
       · have d1 : decide ((k2 : Int) > 0) = false := decide_eq_false (by omega)
         have d2 : decide (0 < k2) = false := decide_eq_false (by omega)
         have H3 : Hid (TIn wC own2 L (shW l (lfK l (k2 + 1))) room s0) := Lib.hid (by have := H2.out; subst hk0; rw [lfK_one]; exact this)
         clear hk0
         go_wp2_with fail
         go_roundw
         case rel => exact ⟨k2 + 1, own2, by first | rfl | go_num, by omega, H3.out.old ((Upd.refl _ _).alloc _), F2.out, U2.out.alloc _⟩
         case measure => simp [intOf]; omega
       · have d1 : decide ((k2 : Int) > 0) = true := decide_eq_true (by omega)
         have d2 : decide (0 < k2) = true := decide_eq_true (by omega)
         have hk00 := hk0
         have HK0 := Lib.hid hk00
         clear hk0 hk00
         obtain ⟨CB, hCB⟩ : ∃ CB, wC.heap.size = CB := ⟨_, rfl⟩
         have hX4 : Blk (wC.alloc (.cells #[.int .i64 (p : Nat), .int .i64 (kd : Nat), .int .u64 (aw : Nat), .int .u64 (ag : Nat)] TNo)) CB #[.int .i64 (p : Nat), .int .i64 (kd : Nat), .int .u64 (aw : Nat), .int .u64 (ag : Nat)] TNo := by rw [← hCB]; exact Blk.new _ _ _
         have hu4 : Upd Nowhere wC (wC.alloc (.cells #[.int .i64 (p : Nat), .int .i64 (kd : Nat), .int .u64 (aw : Nat), .int .u64 (ag : Nat)] TNo)) := (Upd.refl _ _).alloc _
         have hne4 : CB ∉ ([] : List Nat) := fun h => by cases h
         go_upto_region 18 with fail
         generalize wC.alloc (.cells #[.int .i64 (p : Nat), .int .i64 (kd : Nat), .int .u64 (aw : Nat), .int .u64 (ag : Nat)] TNo) = w4 at *
         have H4 := Lib.hid (H2.out.old hu4)
         have U4 := Lib.hid (U2.out.trans hu4 (fun _ _ h => h))
         clear g0 g1 g2 g3 g1' g2' g3' H2 U2 hu4 hCB hne4
         obtain ⟨x0, x1, x2, x3, -⟩ := cells4 hX4
         obtain ⟨t0, -⟩ := H4.out.fields
         rw [hLb] at t0
         have t0' : w4.cell? ⟨b, 0, none⟩ = some (.slice (some ⟨L.g, 0, none⟩) k L.cap) := by rw [t0]; show some (Value.slice _ (l.length : Nat) _) = _; rw [HN.out]
         have zf := H4.out.frozen (i := p) (show p < l.length by rw [HN.out]; exact hpk) (show 4 < 9 by omega)
         have hpi : (p : Int) < (k : Int) := by omega
         obtain ⟨-, -, -, -, c4, -⟩ := H4.out.node (i := p) (show p < l.length by rw [HN.out]; exact hpk)
         obtain ⟨lv, hlv⟩ : ∃ lv, (shW l (lfK l k2)).leaf p = lv := ⟨_, rfl⟩
         rw [hlv] at c4
         clear hlv
         clear t0
         refine wp_region_tail 8 (by kernel_rfl) (by kernel_rfl) ?_
         simp only [List.take_succ_cons, List.take_zero, List.drop_succ_cons, List.drop_zero]
         repeat (go_big_quiet_step (fail))
         refine wpQuiet_nil ?_
         rintro _ ⟨nq, rfl⟩
         go_wp2
         refine Stage.out ?_
         have hlf := tree_leaf (H4.out.old ((Upd.refl Nowhere w4).drewN nq)) HK0.out (by rw [HNP.out, HN.out]; exact hpk)
         rw [HNP.out] at hlf
         obtain ⟨own5, h5, f5⟩ := hlf
         have H5 := Lib.hid h5
         have F5 : Hid (∀ q, own5 q → w.heap.size ≤ q) := Lib.hid (fun q hq => (f5.at_ q hq).elim (F2.out q) (fun h9 => Nat.le_trans U4.out.size h9))
         have U5 := Lib.hid ((U4.out.drewN nq).trans f5.upd (fun q hlt hq => absurd (F2.out q hq) (Nat.not_le.2 hlt)))
         clear h5 f5 F2
         go_wp2_with fail
         go_roundw
         case rel => exact ⟨k2 + 1, own5, by first | rfl | go_num, by omega, H5.out, F5.out, U5.out⟩
         case measure => simp [intOf]; omega
     · obtain rfl : k2 = k := by omega
       have hI2 : ¬ (k2 : Int) < k2 := by omega
       have e9 : shW l (lfK l k2) = shOf l := by unfold shOf; rw [HN.out]
       have H3 : Hid (TIn wC own2 L (shOf l) room s0) := Lib.hid (by rw [← e9]; exact hTI)
       clear hTI e9
       go_wp2_with fail
       go_ret2
       exact ⟨L, by rw [hLb]; rfl, own2, H3.out, hF2, hU2⟩
end Go.Proofs.YtpgpjjkeginbbaaGreatDoor.Tree
namespace Go.Proofs.YtpgpjjkeginbbaaGreatDoor.Tree
open Go.RowKit Go.Proofs BigFrame
set_option maxHeartbeats 4000000
set_option maxRecDepth 1000000
/-- A tree, among other things: at most c came. -/
def treeC (L : Lay) (sh : Sh) (room : Nat) (s : TS) (c : Nat) : Comp :=
 ⟨fun w o => TIn w o L sh room s ∧ Good sh room s ∧ s.c ≤ c, fun h hu hS => ⟨h.1.kept hu hS, h.2⟩, fun h hk => h.1.lt hk⟩
/-- The table of the program's, where it lies. -/
structure Env (w : World) : Prop where
 tab : WheelR.Tab w
 low : Tryz.tz64_ren.g 1 < w.heap.size
theorem Env.old {w w' : World} (h : Env w) (hu : Upd Nowhere w w') : Env w' := ⟨h.tab.old hu id, Nat.lt_of_lt_of_le h.low hu.size⟩
section
variable {w0 w : World} {l : List Comp} {L : Lay} {sh : Sh} {room c : Nat} {s s' : TS}
theorem Made.env (h : Made w0 w l) (E : Env w0) {o : Nat → Prop} (ho : ∀ k, o k → w0.heap.size ≤ k) : TabOff w o :=
 ⟨E.tab.old h.upd id, fun hk => absurd (ho _ hk) (Nat.not_le.2 E.low), Nat.lt_of_lt_of_le E.low h.upd.size⟩
theorem m_push (l1 l2 : List Comp) (h : Made w0 w (l1 ++ treeC L sh room s c :: l2)) (E : Env w0) (hs : sh.Ok) (hr : room ≤ 4096) (hc : c + 20000000 < 18446744073709551615) {t : Nat} (ht : t ≤ 18446744073709551615) (leaf : Int) (a b d : Nat) (ha : a < 4294967296) (hb : b < 4294967296) (hd : d ≤ 18446744073709551615) {v : Nat} (hv : push sh room s t leaf (a, b, d) = (v, s')) :
 Calls Tryz.prog 11 #[.pointer (some ⟨L.b, 0, none⟩), .int .u64 (t : Nat), .int .i64 leaf, .agg (pcell a b d)] w fun e w' => e = .returned (.int .i64 (v : Nat)) ∧ Made w0 w' (l1 ++ treeC L sh room s' (c + 10000000) :: l2) := by
 obtain ⟨o, ⟨h1, hg, hcc⟩, h2, h3⟩ := Made.foc _ _ _ h
 have hp := push_good hs hg hr ht leaf (a, b, d) ha hb
 refine (push_ok hs h1 hg hr (by omega) (Made.env h E h2) ht leaf a b d ha hb hd).mono ?_
 rw [hv] at hp ⊢
 rintro e w' ⟨rfl, own', hi, hf⟩
 have hp2 : s'.c ≤ s.c + 10000000 := hp.2.2
 exact ⟨rfl, h3 w' own' (treeC L sh room s' (c + 10000000)) ⟨hi, hp.1, by omega⟩ hf⟩
theorem m_pop (l1 l2 : List Comp) (h : Made w0 w (l1 ++ treeC L sh room s c :: l2)) (E : Env w0) (hs : sh.Ok) (hr : room ≤ 4096) (hc : c + 20000000 < 18446744073709551615) {t : Nat} (ht : t ≤ 18446744073709551615) {p : Nat × Nat × Nat} {v : Nat} (hv : pop sh s t = (p, v, s')) :
 Calls Tryz.prog 9 #[.pointer (some ⟨L.b, 0, none⟩), .int .u64 (t : Nat)] w fun e w' => e = .returned (.tuple #[VP p, .int .i64 (v : Nat)]) ∧ Made w0 w' (l1 ++ treeC L sh room s' (c + 10000000) :: l2) := by
 obtain ⟨o, ⟨h1, hg, hcc⟩, h2, h3⟩ := Made.foc _ _ _ h
 have hp := pop_good hs hg hr ht
 refine (pop_ok hs h1 hg hr (by omega) (Made.env h E h2) ht).mono ?_
 rw [hv] at hp ⊢
 rintro e w' ⟨rfl, own', hi, hf⟩
 have hp2 : s'.c ≤ s.c + 10000000 := hp.2.2
 exact ⟨rfl, h3 w' own' (treeC L sh room s' (c + 10000000)) ⟨hi, hp.1, by omega⟩ hf⟩
theorem m_tree (l1 l2 : List Comp) (h : Made w0 w (l1 ++ treeC L sh room s c :: l2)) : ∃ own, TIn w own L sh room s ∧ Good sh room s := by
 obtain ⟨o, ⟨h1, hg, hcc⟩, h2, h3⟩ := Made.foc _ _ _ h
 exact ⟨o, h1, hg⟩
theorem NodesAt.old {w w' : World} {ad : Option Addr} {l : List Nd} (h : NodesAt w ad l) (hu : Upd Nowhere w w') : NodesAt w' ad l :=
 ⟨h.none, fun b hb h0 => ⟨(h.at_ b hb h0).1, fun i a ha => by
  obtain ⟨h1, h2, h3, h4⟩ := (h.at_ b hb h0).2 i a ha
  exact ⟨cell_old hu h1, cell_old hu h2, cell_old hu h3, cell_old hu h4⟩⟩⟩
theorem m_new (h : Made w0 w l) (E : Env w0) {ad : Option Addr} {cp : Nat} {nl : List Nd} (hn : NodesAt w ad nl) (h0 : 0 < nl.length) (h1 : nl.length ≤ 32) (hk : okL 0 nl = true) (hr1 : 1 ≤ room) (hr2 : room ≤ 4096) :
 Calls Tryz.prog 8 #[.slice ad nl.length cp, .int .i64 room] w fun e w' => ∃ L : Lay, e = .returned (.tuple #[.pointer (some ⟨L.b, 0, none⟩), .int .i64 0]) ∧ Made w0 w' (treeC L (shOf nl) room s0 0 :: l) := by
 refine (new_ok ad cp nl w room hn h0 h1 hk hr1 hr2 (Nat.lt_of_lt_of_le E.low h.upd.size)).mono ?_
 rintro e w' ⟨L, own, rfl, h4, h5, h6⟩
 exact ⟨L, rfl, h.more (C := treeC L (shOf nl) room s0 0) ⟨h4, s0_good _ _, Nat.le_refl _⟩ h5 h6⟩
end
end Go.Proofs.YtpgpjjkeginbbaaGreatDoor.Tree

