/- Cls2, one behind the other. -/
import Derived.Test.YtdddfmdcjjbegaaGreatMeCls
import Derived.Deep.DeepCutAuto
namespace Go.Proofs.YtdddfmdcjjbegaaGreat.Egs
open Go.RowKit Go.Proofs BigFrame
open RingW (It KI zI ZI VI TE)
open First (Cf VC)
set_option maxHeartbeats 4000000
set_option maxRecDepth 1000000
theorem may_whole {w : World} {own : Nat → Prop} {k : Nat} {cf : Cf} {s : Cs} (h : ClsP w own k cf s) (hf : OkF cf) (hp : cf.policy = 0 ∨ cf.policy = 2) (hl : s.l.length < cf.room.toNat) (rank : Nat) :
 Calls Tryz.prog 37 #[.pointer (some ⟨k, 0, none⟩), .int .u64 rank] w fun e w' => e = .returned (.int .i64 0) ∧ Upd Nowhere w w' := by
 obtain ⟨_, v, gv, o1, hB, hR, -⟩ := h.blk
 have c1 := kc1 hB
 have c0 := kc0 hB
 have c16 := kc16 hB
 obtain ⟨T, V, fl, fh, fp, ft, M⟩ := hR.meth
 have HL := fun u (hu : Upd Nowhere w u) => Lib.hid (M.cl (hR.old hu))
 have hm := M.ml
 have he := M.el
 rw [M.eq] at c16
 have r1 := hf.r1
 obtain ⟨pl, hpl⟩ : ∃ pl : Int, cf.policy = pl := ⟨_, rfl⟩
 obtain ⟨r, hr⟩ : ∃ r : Nat, cf.room = r := ⟨cf.room.toNat, by omega⟩
 have er : cf.room.toNat = r := by omega
 obtain ⟨n, hn⟩ : ∃ n, s.l.length = n := ⟨_, rfl⟩
 rw [hn] at HL hl
 rw [er] at hl
 rw [hpl] at c1 hp
 rw [hr] at c0
 have d1 : decide (r ≤ n) = false := decide_eq_false (by omega)
 have q4 : (pl == 4) = false := by simp; omega
 have q3 : (pl == 3) = false := by simp; omega
 have q1 : (pl == 1) = false := by simp; omega
 have HF : ∀ u, Upd Nowhere w u → u.cell? ⟨k, 16, none⟩ = some (.iface T V) ∧ u.cell? ⟨k, 0, none⟩ = some (.int .i64 r) := fun u hu => ⟨cell_old hu c16, cell_old hu c0⟩
 have H1 : Hid (∀ u, Upd Nowhere w u → u.cell? ⟨k, 1, none⟩ = some (.int .i64 pl)) := Lib.hid (fun u hu => cell_old hu c1)
 clear hB h hR M hf r1 hpl hr er hn hl hp
 go_enter Tryz.func37, Tryz.ntmps37
 go_wp2_with fail
 go_region_held3 (fun w' => Upd Nowhere w w' ∧ w'.cell? ⟨k, 16, none⟩ = some (.iface T V) ∧ w'.cell? ⟨k, 0, none⟩ = some (.int .i64 r)) (first | exact gk_start HF ((Upd.refl _ _).drew) | assumption) (first
  | (refine (gk_call HF (HL _ (by have h9 := ‹Upd Nowhere w _ ∧ _›; exact h9.1)).out (by assumption)).mono ?_; rintro e w' ⟨rfl, _, _⟩))
 rename_i hSF
 obtain ⟨hu, -, -⟩ := hSF
 have c1' := H1.out _ hu
 go_wp2_with fail
 go_ret
 exact ⟨rfl, hu⟩
theorem may_early {w : World} {own : Nat → Prop} {k : Nat} {cf : Cf} {s : Cs} (h : ClsP w own k cf s) (hf : OkF cf) (hp : cf.policy = 1) (hl : s.l.length < cf.room.toNat) (hm1 : s.mean ≤ 18446744073709551615) (hm2 : s.cnt ≤ 18446744073709551615) (hm3 : s.bys ≤ 18446744073709551615) (rank : Nat) :
 Calls Tryz.prog 37 #[.pointer (some ⟨k, 0, none⟩), .int .u64 rank] w fun e w' => e = .returned (.int .i64 (if (Red.rs cf.el cf.eh cf.em cf.es s.mean s.cnt s.bys).2 = true then 21 else 0)) ∧
  ∃ own', ClsP w' own' k cf { s with mean := (Red.rs cf.el cf.eh cf.em cf.es s.mean s.cnt s.bys).1.1, cnt := (Red.rs cf.el cf.eh cf.em cf.es s.mean s.cnt s.bys).1.2 } ∧ Fol w own w' own' := by
 obtain ⟨v, gv, hS⟩ := h
 obtain ⟨o1, o2, ⟨hB, _⟩, ⟨o3, o4, hR, _⟩, _⟩ := id hS
 have hR : Rq (wst cf) w v o3 cf.room.toNat s.inn s.l := hR
 have HST := fun u => Lib.hid (Red.step_any cf.el cf.eh cf.em s.mean s.cnt s.bys cf.es hm1 hm3 hm2 u)
 unfold Wide.Gives at HST
 obtain ⟨⟨⟨M1, M2⟩, G⟩, hrs⟩ : ∃ x, Red.rs cf.el cf.eh cf.em cf.es s.mean s.cnt s.bys = x := ⟨_, rfl⟩
 rw [hrs] at HST ⊢
 dsimp only at HST ⊢
 have c1 := kc1 hB
 have c0 := kc0 hB
 have c6 := kc6 hB
 have c7 := kc7 hB
 have c8 := kc8 hB
 have c9 := kc9 hB
 have c16 := kc16 hB
 have c17 := kc17 hB
 have c18 := kc18 hB
 have c19 := kc19 hB
 have hlt : k < w.heap.size := Blk.lt hB
 obtain ⟨T, V, fl, fh, fp, ft, M⟩ := hR.meth
 have HL := fun u (hu : Upd Nowhere w u) => Lib.hid (M.cl (hR.old hu))
 have hm := M.ml
 have he := M.el
 have ev := M.eq
 subst ev
 have r1 := hf.r1
 obtain ⟨r, hr⟩ : ∃ r : Nat, cf.room = r := ⟨cf.room.toNat, by omega⟩
 have er : cf.room.toNat = r := by omega
 obtain ⟨n, hn⟩ : ∃ n, s.l.length = n := ⟨_, rfl⟩
 rw [hn] at HL hl
 rw [er] at hl
 rw [hp] at c1
 rw [hr] at c0
 have d1 : decide (r ≤ n) = false := decide_eq_false (by omega)
 have HF : ∀ u, Upd Nowhere w u → u.cell? ⟨k, 16, none⟩ = some (.iface T V) ∧ u.cell? ⟨k, 0, none⟩ = some (.int .i64 r) := fun u hu => ⟨cell_old hu c16, cell_old hu c0⟩
 have H1 : Hid (∀ u, Upd Nowhere w u → u.cell? ⟨k, 1, none⟩ = some (.int .i64 1)) := Lib.hid (fun u hu => cell_old hu c1)
 have HF2 : ∀ u, Upd Nowhere w u → u.cell? ⟨k, 6, none⟩ = some (.int .u64 cf.el) ∧ u.cell? ⟨k, 7, none⟩ = some (.int .u64 cf.eh) ∧ u.cell? ⟨k, 8, none⟩ = some (.int .u64 cf.em) ∧ u.cell? ⟨k, 9, none⟩ = some (.int .i64 cf.es) ∧ u.cell? ⟨k, 17, none⟩ = some (.int .u64 s.bys) ∧ u.cell? ⟨k, 18, none⟩ = some (.int .u64 s.mean) ∧ u.cell? ⟨k, 19, none⟩ = some (.int .u64 s.cnt) := fun u hu => ⟨cell_old hu c6, cell_old hu c7, cell_old hu c8, cell_old hu c9, cell_old hu c17, cell_old hu c18, cell_old hu c19⟩
 have HHF2 := Lib.hid HF2
 have HB := Lib.hid hB
 have HS := Lib.hid hS
 clear hB hS hR M hf r1 hr er hn hl hp c6 c7 c8 c9 c17 c18 c19 HF2 hrs
 go_enter Tryz.func37, Tryz.ntmps37
 go_wp2_with fail
 go_region_held3 (fun w' => Upd Nowhere w w' ∧ w'.cell? ⟨k, 16, none⟩ = some (.iface T V) ∧ w'.cell? ⟨k, 0, none⟩ = some (.int .i64 r)) (first | exact gk_start HF ((Upd.refl _ _).drew) | assumption) (first
  | (refine (gk_call HF (HL _ (by have h9 := ‹Upd Nowhere w _ ∧ _›; exact h9.1)).out (by assumption)).mono ?_; rintro e w' ⟨rfl, _, _⟩))
 rename_i hSF
 obtain ⟨hu, -, -⟩ := hSF
 have c1' := H1.out _ hu
 clear HL HF c0 c1 c16 H1
 go_upto_region 11 with fail
 refine TwinW.wp_old hu (fun w1 hu1 => ?_)
 clear c1' hu
 have ls := hu1.size
 go_cut [5, 6] (fun v5 v6 wc => ∃ p, v5 = .pointer (some ⟨p, 0, none⟩) ∧ v6 = .bool G ∧ w.heap.size ≤ p ∧ Upd Nowhere w wc ∧ Blk wc p #[.int .u64 (M1 : Nat), .int .u64 (M2 : Nat)] 90)
 case first =>
  go_region_held3 (fun w' => Upd Nowhere w w' ∧ w'.cell? ⟨k, 6, none⟩ = some (.int .u64 cf.el) ∧ w'.cell? ⟨k, 7, none⟩ = some (.int .u64 cf.eh) ∧ w'.cell? ⟨k, 8, none⟩ = some (.int .u64 cf.em) ∧ w'.cell? ⟨k, 9, none⟩ = some (.int .i64 cf.es) ∧ w'.cell? ⟨k, 17, none⟩ = some (.int .u64 s.bys) ∧ w'.cell? ⟨k, 18, none⟩ = some (.int .u64 s.mean) ∧ w'.cell? ⟨k, 19, none⟩ = some (.int .u64 s.cnt)) (first | exact gk_start HHF2.out hu1.drew | assumption | exact gk_old HHF2.out ((Upd.refl _ _).alloc _) (by assumption) | exact gk_old HHF2.out (((Upd.refl _ _).drew).alloc _) (by assumption) | exact gk_set HHF2.out (by first | exact ls | (dsimp only; omega)) (gk_set HHF2.out (by first | exact ls | (dsimp only; omega)) (by assumption))) (first | (go_at_call 68; refine (gk_call HHF2.out (HST _).out (by assumption)).mono ?_; rintro e w11 ⟨rfl, u11, hS11⟩; have sz11 := hS11.1.size; first | (have HX11 := Lib.hid (Blk.kept ((Blk.new w1 #[.int .u64 0, .int .u64 0] 90).drew) u11 id); obtain ⟨q0, q1, q2, q3⟩ := cells2 HX11.out) | skip))
  all_goals
   rename_i hSF
   obtain ⟨hUF, -⟩ := hSF
   go_wp2_with fail
   go_meet
   first
    | exact ⟨_, rfl, rfl, sz11, hUF, Blk.new _ _ _⟩
    | exact ⟨_, rfl, rfl, ls, hUF, by simpa using (HX11.out.set 0 (.int .u64 (M1 : Nat))).set 1 (.int .u64 (M2 : Nat))⟩
 case rest =>
  obtain ⟨p, rfl, rfl, hp0, hUc, hX⟩ := hcut
  obtain ⟨w2, rfl⟩ : ∃ x, x = wc := ⟨_, rfl⟩
  obtain ⟨q0, q1, -⟩ := cells2 hX
  have hB2 := HB.out.kept hUc id
  have f18 := hB2.free 18
  have f19 := hB2.free 19
  have c18 := kc18 hB2
  have c19 := kc19 hB2
  have HB3 : Hid (Blk ((w2.setCell ⟨k, 18, none⟩ (.int .u64 (M1 : Nat))).setCell ⟨k, 19, none⟩ (.int .u64 (M2 : Nat))) k (KC cf { s with mean := M1, cnt := M2 } (.iface T V) gv) TK) := Lib.hid (by simpa using (hB2.set 18 (.int .u64 (M1 : Nat))).set 19 (.int .u64 (M2 : Nat)))
  have HU3 : Hid (Upd (fun q => q = k) w2 ((w2.setCell ⟨k, 18, none⟩ (.int .u64 (M1 : Nat))).setCell ⟨k, 19, none⟩ (.int .u64 (M2 : Nat)))) := Lib.hid (((Upd.refl _ _).setOne 18 _).setOne 19 _)
  have HUC := Lib.hid hUc
  have hpk : ¬ p = k := by omega
  clear hB2 hX hUc
  cases G with
  | true =>
    go_wp2_with fail
    go_ret
    obtain ⟨own', h1, h2⟩ := sep_blk HS.out HUC.out HU3.out HB3.out
    exact ⟨rfl, own', ⟨_, _, h1⟩, h2⟩
  | false =>
    go_wp2_with fail
    go_ret
    obtain ⟨own', h1, h2⟩ := sep_blk HS.out HUC.out HU3.out HB3.out
    exact ⟨rfl, own', ⟨_, _, h1⟩, h2⟩
theorem may_ranked {w : World} {own : Nat → Prop} {k : Nat} {cf : Cf} {s : Cs} (h : ClsP w own k cf s) (hp : cf.policy = 3) (rank : Nat) :
 Calls Tryz.prog 37 #[.pointer (some ⟨k, 0, none⟩), .int .u64 rank] w fun e w' => e = .returned (.int .i64 (if Aifo.mayB cf.room.toNat s.gw cf.num cf.den s.win rank = true then 0 else 21)) ∧
  ∃ own', ClsP w' own' k cf { s with gw := if Aifo.mayB cf.room.toNat s.gw cf.num cf.den s.win rank = true then s.gw + 1 else s.gw, win := Aifo.slid cf.window.toNat s.win ++ [(rank : Int)] } ∧ Fol w own w' own' := by
 obtain ⟨v, gv, hS⟩ := h
 obtain ⟨o, hG, _, hK⟩ := Sep.foc (gateC cf gv s.gw s.win) [] [blkC k (KC cf s v gv) TK, rowC (wst cf) v cf.room.toNat s.inn s.l] hS
 obtain ⟨o1, o2, ⟨hB, _⟩, _⟩ := hS
 have hG : GateP cf w gv s.gw s.win o := hG
 unfold GateP at hG
 rw [if_pos hp] at hG
 obtain ⟨b, rb, rg, rv, rs, rfl, hI, ho⟩ := hG
 have HO := Lib.hid (Aifo.offer_any hI rank)
 obtain ⟨G, hG⟩ : ∃ G, Aifo.mayB cf.room.toNat s.gw cf.num cf.den s.win rank = G := ⟨_, rfl⟩
 obtain ⟨g2, hg2⟩ : ∃ g2, (if G = true then s.gw + 1 else s.gw) = g2 := ⟨_, rfl⟩
 rw [hG] at HO ⊢
 rw [hg2] at HO ⊢
 have c1 := kc1 hB
 have c25 := kc25 hB
 rw [hp] at c1
 have HKK : Hid (∀ w', Aifo.GateTurned Aifo.TG RingU.TR RingU.TE w w' b rb rg rv cf.room.toNat cf.window.toNat g2 cf.num cf.den (Aifo.slid cf.window.toNat s.win ++ [(rank : Int)]) → ∃ own', ClsP w' own' k cf { s with gw := g2, win := Aifo.slid cf.window.toNat s.win ++ [(rank : Int)] } ∧ Fol w own w' own') := Lib.hid (by
  rintro w' ⟨rg', rv', rs', h1, h2, h3⟩
  obtain ⟨own', h4, h5⟩ := hK w' (Aifo.GateOf b rb rg' rv') (gateC cf (.pointer (some ⟨b, 0, none⟩)) g2 (Aifo.slid cf.window.toNat s.win ++ [(rank : Int)])) (by
   show GateP cf w' _ _ _ _
   unfold GateP
   rw [if_pos hp]
   exact ⟨b, rb, rg', rv', rs', rfl, h1, fun _ => Iff.rfl⟩) ⟨fun q hq => (h2 q hq).imp (fun h => (ho q).2 h) id, h3.mono fun q _ hq => (ho q).2 hq⟩
  exact ⟨own', ⟨v, _, h4⟩, h5⟩)
 clear hK hB hI ho hg2 hG
 cases G with
 | true =>
   go_enter Tryz.func37, Tryz.ntmps37
   go_wp2_with fail
   refine (HO.out).mono ?_
   rintro e w' ⟨rfl, hT⟩
   go_wp2_with fail
   go_ret
   exact ⟨rfl, HKK.out _ hT⟩
 | false =>
   go_enter Tryz.func37, Tryz.ntmps37
   go_wp2_with fail
   refine (HO.out).mono ?_
   rintro e w' ⟨rfl, hT⟩
   go_wp2_with fail
   go_ret
   exact ⟨rfl, HKK.out _ hT⟩
/-- Whether a packet may come. -/
theorem may_ok {w : World} {own : Nat → Prop} {k c now : Nat} {cf : Cf} {s : Cs} (h : ClsP w own k cf s) (hf : OkF cf) (hs : OkS cf s now c) (rank : Nat) :
 Calls Tryz.prog 37 #[.pointer (some ⟨k, 0, none⟩), .int .u64 rank] w fun e w' => e = .returned (.int .i64 ((mayS cf s rank).1 : Nat)) ∧ ∃ own', ClsP w' own' k cf (mayS cf s rank).2 ∧ Fol w own w' own' := by
 have p1 := hf.p1
 have p2 := hf.p2
 have hb := hs.by2 hf
 have old : ∀ {w' : World}, Upd Nowhere w w' → ∃ own', ClsP w' own' k cf s ∧ Fol w own w' own' := fun {w'} hu => by
  obtain ⟨v, gv, hS⟩ := h
  exact ⟨own, ⟨v, gv, hS.old hu⟩, (Fol.refl _ _).old hu⟩
 by_cases h4 : cf.policy = 4
 · have e : mayS cf s rank = (0, s) := by unfold mayS; rw [if_pos h4]
   rw [e]
   exact (may_worst h h4 rank).mono fun e w' ⟨e1, e2⟩ => ⟨e1, by subst e2; exact old (Upd.refl _ _)⟩
 · by_cases h3 : cf.policy = 3
   · have e : mayS cf s rank = (if Aifo.mayB cf.room.toNat s.gw cf.num cf.den s.win rank = true then 0 else 21, { s with gw := if Aifo.mayB cf.room.toNat s.gw cf.num cf.den s.win rank = true then s.gw + 1 else s.gw, win := Aifo.slid cf.window.toNat s.win ++ [(rank : Int)] }) := by unfold mayS; rw [if_neg h4, if_pos h3]
     rw [e]
     refine (may_ranked h h3 rank).mono fun e w' ⟨e1, e2⟩ => ⟨?_, e2⟩
     rw [e1]
     split <;> rfl
   · by_cases hl : cf.room.toNat ≤ s.l.length
     · have e : mayS cf s rank = (20, s) := by unfold mayS; rw [if_neg h4, if_neg h3, if_pos hl]
       rw [e]
       exact (may_full h hf (by omega) hl rank).mono fun e w' ⟨e1, e2⟩ => ⟨e1, old e2⟩
     · by_cases h1 : cf.policy = 1
       · have e : mayS cf s rank = (if (Red.rs cf.el cf.eh cf.em cf.es s.mean s.cnt s.bys).2 = true then 21 else 0, { s with mean := (Red.rs cf.el cf.eh cf.em cf.es s.mean s.cnt s.bys).1.1, cnt := (Red.rs cf.el cf.eh cf.em cf.es s.mean s.cnt s.bys).1.2 }) := by unfold mayS; rw [if_neg h4, if_neg h3, if_neg hl, if_pos h1]
         rw [e]
         refine (may_early h hf h1 (by omega) hs.mn hs.ct (by omega) rank).mono fun e w' ⟨e1, e2⟩ => ⟨?_, e2⟩
         rw [e1]
         split <;> rfl
       · have e : mayS cf s rank = (0, s) := by unfold mayS; rw [if_neg h4, if_neg h3, if_neg hl, if_neg h1]
         rw [e]
         exact (may_whole h hf (by omega) (by omega) rank).mono fun e w' ⟨e1, e2⟩ => ⟨e1, old e2⟩
end Go.Proofs.YtdddfmdcjjbegaaGreat.Egs

