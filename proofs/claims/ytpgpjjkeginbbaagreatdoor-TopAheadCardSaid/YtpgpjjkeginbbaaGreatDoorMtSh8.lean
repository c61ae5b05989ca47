/- ShM8, ShM9, ShM10, one behind the other. -/
import Derived.Test.YtpgpjjkeginbbaaGreatDoorMtSh6
import Derived.Test.YtpgpjjkeginbbaaGreatDoorMtA
namespace Go.Proofs.YtpgpjjkeginbbaaGreatDoor.Shm
open Go.RowKit Go.Proofs BigFrame
open Sh (Fl Cg Pk St)
open Rnk (RkIn FlsIn)
open Gt (VC TCg cgs)
set_option maxHeartbeats 40000000
set_option maxRecDepth 1000000
set_option linter.unusedSimpArgs false
/-- What made gives. -/
abbrev MadeOk (R : World → Value → (Nat → Prop) → Nat → Nat → Sh.Bk → Prop) (c : Cg) (fv : Value) (u : World) : Prop :=
 Calls Tryz.prog 22 #[.agg (VC c fv)] u fun e w' => ∃ v own, e = .returned v ∧ R w' v own c.packets.toNat 0 (Sh.st0 c).bk ∧ (∀ k, own k → u.heap.size ≤ k) ∧ Upd Nowhere u w'
theorem made_heap {c : Cg} {fv : Value} (hb : c.back = 1) (hp : 1 ≤ c.packets ∧ c.packets ≤ 4096) (w : World) : MadeOk Bk.Bq c fv w := by
 obtain ⟨room, hr⟩ : ∃ room : Nat, c.packets = room := ⟨c.packets.toNat, by omega⟩
 have e1 : c.packets.toNat = room := by omega
 have e2 : (Sh.st0 c).bk = .srt [] := if_neg (by rw [hb]; decide)
 unfold MadeOk
 rw [e1, e2]
 have HQ := fun u => Lib.hid (HeapP.q_new room u (by omega) (by omega))
 have hU : Upd Nowhere w (w.alloc (.cells (VC c fv) TCg)) := (Upd.refl _ _).alloc _
 have hB : Blk (w.alloc (.cells (VC c fv) TCg)) w.heap.size (VC c fv) TCg := Blk.new _ _ _
 obtain ⟨q0, q1, q2, q3, q4, q5, q6, q7, q8, q9, q10⟩ := cgs hB
 rw [hb] at q1
 rw [hr] at q4
 have HU := Lib.hid hU
 clear e1 e2 hb hU q0 q2 q3 q5 q6 q7 q8 q9 q10 hB
 go_enter Tryz.func22, Tryz.ntmps22
 go_upto_region 1 with fail
 generalize w.alloc (.cells (VC c fv) TCg) = w1 at *
 go_wp2_with fail
 refine (HQ _).out.mono ?_
 rintro e w2 ⟨rfl, ⟨own, h2, h3⟩, u2⟩
 have HR : Hid (Bk.Bq w2 (.iface Bk.TH (Bk.VB w1.heap.size)) own room 0 (.srt []) ∧ (∀ k, own k → w.heap.size ≤ k) ∧ Upd Nowhere w w2) := Lib.hid ⟨⟨_, rfl, h2⟩, fun k hk => Nat.le_trans HU.out.size (h3 k hk), HU.out.trans u2 (fun _ _ h => h)⟩
 clear h2 h3 u2 q1 q4
 go_wp2_with fail
 go_ret
 exact ⟨_, own, rfl, HR.out.1, HR.out.2.1, HR.out.2.2⟩
theorem tot_nil (n : Nat) : tot (fun _ => ([] : List (Nat × Pk))) n = 0 := by
 induction n with
 | zero => rfl
 | succ k ih => unfold tot; rw [ih]; rfl
theorem made_queues {c : Cg} {fv : Value} (hb : c.back = 3) (hp : 1 ≤ c.packets ∧ c.packets ≤ 4096) (hq : 1 ≤ c.queues ∧ c.queues ≤ 32) (w : World) : MadeOk Bk.Bq c fv w := by
 obtain ⟨room, hr⟩ : ∃ room : Nat, c.packets = room := ⟨c.packets.toNat, by omega⟩
 obtain ⟨n, hn⟩ : ∃ n : Nat, c.queues = n := ⟨c.queues.toNat, by omega⟩
 have e1 : c.packets.toNat = room := by omega
 have e3 : c.queues.toNat = n := by omega
 have e2 : (Sh.st0 c).bk = .qs c.queues.toNat (fun _ => 0) (fun _ => []) := if_pos hb
 unfold MadeOk
 rw [e1, e2, e3]
 have HQ := fun u => Lib.hid (SpP.new_ok u room n (by omega) (by omega) (by omega) (by omega))
 have hU : Upd Nowhere w (w.alloc (.cells (VC c fv) TCg)) := (Upd.refl _ _).alloc _
 have hB : Blk (w.alloc (.cells (VC c fv) TCg)) w.heap.size (VC c fv) TCg := Blk.new _ _ _
 obtain ⟨q0, q1, q2, q3, q4, q5, q6, q7, q8, q9, q10⟩ := cgs hB
 rw [hb] at q1
 rw [hr] at q4
 rw [hn] at q3
 have HU := Lib.hid hU
 clear e1 e2 e3 hb hU q0 q2 q5 q6 q7 q8 q9 q10 hB
 go_enter Tryz.func22, Tryz.ntmps22
 go_upto_region 1 with fail
 generalize w.alloc (.cells (VC c fv) TCg) = w1 at *
 go_wp2_with fail
 refine (HQ _).out.mono ?_
 rintro e w2 ⟨s, rfl, gq, gb, cq, rb, hS, hl, u2⟩
 have HR : Hid (Bk.Bq w2 (.iface Bk.TQ (Bk.VB s)) (SpOf s gq gb n rb (fun _ => none)) room 0 (.qs n (fun _ => 0) (fun _ => [])) ∧ (∀ k, SpOf s gq gb n rb (fun _ => none) k → w.heap.size ≤ k) ∧ Upd Nowhere w w2) := Lib.hid ⟨⟨s, gq, gb, cq, rb, _, rfl, by rw [tot_nil]; exact hS, ⟨fun _ _ _ _ => Nat.le_refl _, fun _ _ => Nat.zero_le _⟩, by rw [tot_nil]; exact Nat.zero_le _, fun _ => Iff.rfl⟩, fun k hk => Nat.le_trans HU.out.size (hl k hk), HU.out.trans u2 (fun _ _ h => h)⟩
 clear hS hl u2 q1 q3 q4
 go_wp2_with fail
 go_ret
 exact ⟨_, _, rfl, HR.out.1, HR.out.2.1, HR.out.2.2⟩
end Go.Proofs.YtpgpjjkeginbbaaGreatDoor.Shm
namespace Go.Proofs.YtpgpjjkeginbbaaGreatDoor.Shm
open Go.RowKit Go.Proofs BigFrame
open Sh (Fl Cg Pk St)
open Rnk (RkIn FlsIn)
open Gt (VC TCg cgs)
set_option maxHeartbeats 40000000
set_option maxRecDepth 1000000
set_option linter.unusedSimpArgs false
/-- One cell of a block among things, written. -/
theorem made_set {wC w : World} {l1 l2 : List Comp} {g : Nat} {cs : Array Value} {t : TypeId} (h : Made wC w (l1 ++ blkC g cs t :: l2)) (j : Nat) (u : Value) : Made wC (w.setCell ⟨g, j, none⟩ u) (l1 ++ blkC g (cs.setIfInBounds j u) t :: l2) := by
 obtain ⟨o, hP, _, hF⟩ := Made.foc _ _ _ h
 refine hF _ o _ ⟨hP.1.set j u, hP.2⟩ ⟨fun _ h => .inl h, (Upd.refl _ _).setCell (a := ⟨g, j, none⟩) (fun _ => (hP.2 _).2 rfl) u⟩
theorem made_blk {wC w : World} {l1 l2 : List Comp} {g : Nat} {cs : Array Value} {t : TypeId} (h : Made wC w (l1 ++ blkC g cs t :: l2)) : Blk w g cs t := by
 obtain ⟨o, hP, _, _⟩ := Made.foc _ _ _ h
 exact hP.1
section
variable {R : World → Value → (Nat → Prop) → Nat → Nat → Sh.Bk → Prop} {w : World} {c : Cg} {ad : Option Addr} {n cp : Nat}
theorem new_ok (hR : Bk.Laws R) (hn : c.flows.length = n) (hc : Sh.Cok c) (hf : FlsIn w ad c.flows) (HM : ∀ u, Upd Nowhere w u → MadeOk R c (.slice ad n cp) u) :
 Calls Tryz.prog 6 #[.agg (VC c (.slice ad n cp))] w fun e w' => ∃ (L : Lay) (own : Nat → Prop), e = .returned (.tuple #[.pointer (some ⟨L.s, 0, none⟩), .int .i64 0]) ∧ (shC hR L c 0 (Sh.st0 c)).P w' own ∧ (∀ k, own k → w.heap.size ≤ k) ∧ Upd Nowhere w w' := by
 have hsh := Sh.chk_parts hc.k0
 obtain ⟨hl1, hl64, htw, _, _, _, _, hmt1, hmt2⟩ := Gt.chkA_ok hsh.2.2.2.2.2.2.2.2.2.2.1
 rw [hn] at hl1 hl64
 obtain ⟨f0, hf0⟩ : ∃ f, c.flows[0]? = some f := ⟨c.flows[0]'(by omega), by simp⟩
 obtain ⟨g0, o0, e0, _⟩ := hf 0 f0 hf0
 subst e0
 have hU : Upd Nowhere w (w.alloc (.cells (VC c (.slice (some ⟨g0, o0, none⟩) n cp)) TCg)) := (Upd.refl _ _).alloc _
 have hB : Blk (w.alloc (.cells (VC c (.slice (some ⟨g0, o0, none⟩) n cp)) TCg)) w.heap.size (VC c (.slice (some ⟨g0, o0, none⟩) n cp)) TCg := Blk.new _ _ _
 have hC := Gt.check_any (cp := cp) hn (by omega) (hf.old hU)
 rw [hc.k0] at hC
 have HC := Lib.hid hC
 have HM := fun u hu => Lib.hid (HM u hu)
 have HA := fun u (hu : Upd Nowhere w u) => Lib.hid (Gt.gnew_ok (cp := cp) hn hsh.2.2.2.2.2.2.2.2.2.2.1 (hf.old hu))
 have HRk := fun u (hu : Upd Nowhere w u) => Lib.hid (Rnk.new_ok (kind := c.rank) (c := cp) hn hl1 hl64 hsh.2.2.1 hsh.2.2.2.1 htw (hf.old hu))
 have HBu := fun u => Lib.hid (Bucket.new_ok c.rate c.burst (Bucket.chk_ok.2 ⟨by have := hsh.2.2.2.2.2.2.2.2.2.2.2.1; omega, by have := hsh.2.2.2.2.2.2.2.2.2.2.2.2; omega, Nat.le_refl _⟩) u)
 have HN := Lib.hid hn
 clear hC hf hf0 hsh htw
 go_enter Tryz.func6, Tryz.ntmps6
 go_wp2_with fail
 refine (HC.out).mono ?_
 rintro e w1 ⟨rfl, u1⟩
 have HU1 := Lib.hid (hU.trans u1 (fun _ _ h => h))
 obtain ⟨pk, hpk⟩ : ∃ pk, w.heap.size = pk := ⟨_, rfl⟩
 have hB1 := hB.kept u1 (fun h => h)
 rw [hpk] at hB1
 have HB1 := Lib.hid hB1
 obtain ⟨q0, q1, q2, q3, q4, q5, q6, q7, q8, q9, q10⟩ := cgs hB1
 clear hB1 hB hU u1 HC
 go_upto_region 2 with fail
 (try simp only [hpk])
 clear hpk
 go_wp2_with fail
 refine (HM _ HU1.out).out.mono ?_
 rintro e w2 ⟨v, oB, rfl, hBk, hge, u2⟩
 obtain ⟨T, VV, fp, fk, fo, hM⟩ := hR.meth hBk
 have hv := hM.eq
 subst hv
 clear hM
 have hM2 : Made w1 w2 [bkC hR (.iface T VV) c.packets.toNat 0 (Sh.st0 c).bk] := (Made.start w1).more (C := bkC hR (.iface T VV) c.packets.toNat 0 (Sh.st0 c).bk) hBk hge u2
 have HM2 := Lib.hid hM2
 clear hBk hge hM2 u2 HM q0 q1 q2 q3 q4 q5 q6 q7 q8 q9 q10
 go_upto_region 5 with fail
 obtain ⟨A0, hA0⟩ : ∃ A0 : Array Value, #[.pointer none, .pointer none, .int .u64 0, .int .u64 0, .int .u64 0, .iface T VV, .int .u64 0, .int .u64 0, .int .u64 0, .int .u64 0, .int .u64 0, .int .u64 0, .int .u64 0, .int .u64 0, .int .u64 0, .int .u64 0, .int .u64 0, .int .u64 0, .int .u64 0, .int .u64 0, .int .u64 0, .int .u64 0, .int .u64 0, .int .u64 0, .int .u64 0, .int .u64 0, .int .u64 0, .int .u64 0, .int .u64 0, .int .u64 0, .int .u64 0, .int .u64 0, .int .u64 0, .int .u64 0, .int .u64 0, .int .u64 0, .int .u64 0, .int .u64 0, .int .u64 0] = A0 := ⟨_, rfl⟩
 have hM3 : Made w1 (w2.alloc (.cells A0 TSh)) [blkC w2.heap.size A0 TSh, bkC hR (.iface T VV) c.packets.toNat 0 (Sh.st0 c).bk] := HM2.out.more (C := blkC w2.heap.size A0 TSh) (o := fun q => q = w2.heap.size) ⟨Blk.new _ _ _, fun _ => Iff.rfl⟩ (fun q hq => by rw [hq]; exact Nat.le_refl _) ((Upd.refl _ _).alloc _)
 have HM3 := Lib.hid hM3
 have HA0 := Lib.hid hA0
 rw [hA0]
 clear hM3 hA0 HM2
 generalize w2.heap.size = s at *
 generalize w2.alloc (.cells A0 TSh) = w3 at *
 have HU3 := Lib.hid (HU1.out.trans HM3.out.upd (fun _ _ h => h))
 obtain ⟨q0, q1, q2, q3, q4, q5, q6, q7, q8, q9, q10⟩ := cgs (HB1.out.kept HM3.out.upd (fun h => h))
 go_wp2_with fail
 refine (HA _ HU3.out).out.mono ?_
 rintro e w4 ⟨g, oG, rfl, hG, hge, u4⟩
 have hM4 := HM3.out.more (C := gmC g c 0 0 n (Gt.tblM c.flows n)) hG hge u4
 have hb4 := made_blk (l1 := [gmC g c 0 0 n (Gt.tblM c.flows n)]) hM4
 have b0 : w4.cell? ⟨s, 0, none⟩ = some (.pointer none) := hb4.cellAt (by rw [← HA0.out]; rfl)
 have z0 := hb4.free 0
 have HM5 := Lib.hid (made_set (l1 := [gmC g c 0 0 n (Gt.tblM c.flows n)]) hM4 0 (.pointer (some ⟨g, 0, none⟩)))
 clear hG hge u4 hM4 hb4 q0 q1 q2 q3 q4 q5 q6 q7 q8 q9 q10
 go_upto_region 6 with fail
 generalize w4.setCell ⟨s, 0, none⟩ (.pointer (some ⟨g, 0, none⟩)) = w5 at *
 clear b0 z0
 have HU5 := Lib.hid (HU1.out.trans HM5.out.upd (fun _ _ h => h))
 obtain ⟨q0, q1, q2, q3, q4, q5, q6, q7, q8, q9, q10⟩ := cgs (HB1.out.kept HM5.out.upd (fun h => h))
 go_wp2_with fail
 refine (HRk _ HU5.out).out.mono ?_
 rintro e w6 ⟨r, gf, gt, cf, ct, rfl, hRk, hg1, hg2, hg3, u6⟩
 have hM6 := HM5.out.more (C := rkC r gf gt n cf ct c.rank c.flows (Rnk.tgs c.rank c.flows n) 0) (o := fun q => q = r ∨ q = gf ∨ q = gt) ⟨hRk, fun _ => Iff.rfl⟩ (fun q hq => by rcases hq with rfl | rfl | rfl <;> assumption) u6
 have hb6 := made_blk (l1 := [rkC r gf gt n cf ct c.rank c.flows (Rnk.tgs c.rank c.flows n) 0, gmC g c 0 0 n (Gt.tblM c.flows n)]) hM6
 have b1 : w6.cell? ⟨s, 1, none⟩ = some (.pointer none) := hb6.cellAt (by rw [← HA0.out]; rfl)
 have z1 := hb6.free 1
 have HM7 := Lib.hid (made_set (l1 := [rkC r gf gt n cf ct c.rank c.flows (Rnk.tgs c.rank c.flows n) 0, gmC g c 0 0 n (Gt.tblM c.flows n)]) hM6 1 (.pointer (some ⟨r, 0, none⟩)))
 clear hRk hg1 hg2 hg3 u6 hM6 hb6 q0 q1 q2 q3 q4 q5 q6 q7 q8 q9 q10
 go_upto_region 7 with fail
 generalize w6.setCell ⟨s, 1, none⟩ (.pointer (some ⟨r, 0, none⟩)) = w7 at *
 clear b1 z1
 obtain ⟨q0, q1, q2, q3, q4, q5, q6, q7, q8, q9, q10⟩ := cgs (HB1.out.kept HM7.out.upd (fun h => h))
 go_wp2_with fail
 refine (HBu _).out.mono ?_
 rintro e w8 ⟨rfl, u8⟩
 have hM8 := HM7.out.old u8
 have hb8 := made_blk (l1 := [rkC r gf gt n cf ct c.rank c.flows (Rnk.tgs c.rank c.flows n) 0, gmC g c 0 0 n (Gt.tblM c.flows n)]) hM8
 have b2 : w8.cell? ⟨s, 2, none⟩ = some (.int .u64 0) := hb8.cellAt (by rw [← HA0.out]; rfl)
 have b3 : w8.cell? ⟨s, 3, none⟩ = some (.int .u64 0) := hb8.cellAt (by rw [← HA0.out]; rfl)
 have b4 : w8.cell? ⟨s, 4, none⟩ = some (.int .u64 0) := hb8.cellAt (by rw [← HA0.out]; rfl)
 have z2 := hb8.free 2
 have z3 := hb8.free 3
 have z4 := hb8.free 4
 have HM9 := Lib.hid (made_set (l1 := [rkC r gf gt n cf ct c.rank c.flows (Rnk.tgs c.rank c.flows n) 0, gmC g c 0 0 n (Gt.tblM c.flows n)]) (made_set (l1 := [rkC r gf gt n cf ct c.rank c.flows (Rnk.tgs c.rank c.flows n) 0, gmC g c 0 0 n (Gt.tblM c.flows n)]) (made_set (l1 := [rkC r gf gt n cf ct c.rank c.flows (Rnk.tgs c.rank c.flows n) 0, gmC g c 0 0 n (Gt.tblM c.flows n)]) hM8 2 (.int .u64 (c.rate : Nat))) 3 (.int .u64 (c.burst : Nat))) 4 (.int .u64 (c.burst : Nat)))
 clear hM8 hb8 q0 q1 q2 q3 q4 q5 q6 q7 q8 q9 q10 u8
 go_upto_region 8 with fail
 generalize ((w8.setCell ⟨s, 2, none⟩ (.int .u64 (c.rate : Nat))).setCell ⟨s, 3, none⟩ (.int .u64 (c.burst : Nat))).setCell ⟨s, 4, none⟩ (.int .u64 (c.burst : Nat)) = w9 at *
 go_wp2_with fail
 go_ret2
 have eA : ((((A0.setIfInBounds 0 (.pointer (some ⟨g, 0, none⟩))).setIfInBounds 1 (.pointer (some ⟨r, 0, none⟩))).setIfInBounds 2 (.int .u64 (c.rate : Nat))).setIfInBounds 3 (.int .u64 (c.burst : Nat))).setIfInBounds 4 (.int .u64 (c.burst : Nat)) = SC g r c.rate c.burst c.burst (.iface T VV) 0 (fun _ => 0) := by rw [← HA0.out]; rfl
 have hM9 := HM9.out
 rw [eA] at hM9
 have eT : Rnk.tgs c.rank c.flows n = (Sh.st0 c).tags := by unfold Rnk.tgs; rw [List.take_of_length_le (by rw [HN.out]; exact Nat.le_refl _)]; rfl
 have eO : Gt.tblM c.flows n = (Sh.st0 c).own := by rw [← HN.out, Gt.tblM_all]; rfl
 rw [eT, eO, ← HN.out] at hM9
 have hM10 := hM9.perm (((List.Perm.swap _ _ _).trans ((List.Perm.swap _ _ _).cons _)).trans (List.Perm.swap _ _ _))
 obtain ⟨own, a1, a2, a3⟩ := hM10
 refine ⟨⟨s, g, r, gf, gt, cf, ct, .iface T VV⟩, own, rfl, ?_, fun q hq => Nat.le_trans HU1.out.size (a2 q hq), HU1.out.trans a3 (fun _ _ h => h)⟩
 show Sep w9 (shL hR ⟨s, g, r, gf, gt, cf, ct, .iface T VV⟩ c 0 (Sh.st0 c)) own
 unfold shL
 dsimp only
 rw [show rOf (Sh.st0 c).ref = fun _ => 0 from rOf_z32]
 exact a1
end
end Go.Proofs.YtpgpjjkeginbbaaGreatDoor.Shm
namespace Go.Proofs.YtpgpjjkeginbbaaGreatDoor.Shm
open Go.RowKit Go.Proofs BigFrame
open Sh (Fl Cg Pk St)
set_option maxHeartbeats 40000000
set_option maxRecDepth 1000000
set_option linter.unusedSimpArgs false
/-- Operations in memory. -/
def OpsIn (w : World) (ad : Option Addr) (l : List Sh.Op) : Prop := ∀ (k : Nat) (x : Sh.Op), l[k]? = some x → ∃ g o, ad = some ⟨g, o, none⟩ ∧ w.cell? ⟨g, o + k * 5, none⟩ = some (.int .i64 x.kind) ∧ w.cell? ⟨g, o + k * 5 + 1, none⟩ = some (.int .u32 (x.flow : Nat)) ∧ w.cell? ⟨g, o + k * 5 + 2, none⟩ = some (.int .u32 (x.id : Nat)) ∧ w.cell? ⟨g, o + k * 5 + 3, none⟩ = some (.int .u64 (x.len : Nat)) ∧ w.cell? ⟨g, o + k * 5 + 4, none⟩ = some (.int .u64 (x.ticks : Nat))
theorem OpsIn.old {w w' : World} {ad : Option Addr} {l : List Sh.Op} (h : OpsIn w ad l) (hu : Upd Nowhere w w') : OpsIn w' ad l := fun k f hf => by
 obtain ⟨g, o, e, c0, c1, c2, c3, c4⟩ := h k f hf
 exact ⟨g, o, e, cell_old hu c0, cell_old hu c1, cell_old hu c2, cell_old hu c3, cell_old hu c4⟩
/-- The cells of replies. -/
def reRow (l : List Sh.Re) : List Value := l.flatMap (fun x => (vre x).toList)
theorem infoRe3 : (Tryz.prog.info? TRe).map (fun i => (i.zero, i.size, i.bytes)) = some (some (.agg zRe), 42, 328) := by kernel_rfl
theorem bs_re (kind : Int) (code x0 x1 x2 rank now tok p b : Nat) (r : Nat → Nat) (w : World) : (Instr.buildSlice 80 1 #[(0, .agg (VRe kind code x0 x1 x2 rank now tok p b r))]).run Tryz.prog w = .ok (.slice (some ⟨w.heap.size, 0, none⟩) 1 1) (w.alloc (.cells (VRe kind code x0 x1 x2 rank now tok p b r) TRe)) := by kernel_rfl
theorem runS_take {c : Cg} {st : St} {l : List Sh.Op} {k : Nat} {x : Sh.Op} (h : l[k]? = some x) : (Sh.runS c st (l.take (k + 1))).1 = (Sh.runS c st (l.take k)).1 ++ [(Sh.doS c (Sh.runS c st (l.take k)).2 x).1] ∧ (Sh.runS c st (l.take (k + 1))).2 = (Sh.doS c (Sh.runS c st (l.take k)).2 x).2 := by
 rw [List.take_add_one, h]
 obtain ⟨h1, h2⟩ := Sh.runS_app c (l.take k) [x] st
 exact ⟨h1, h2⟩
section
variable {R : World → Value → (Nat → Prop) → Nat → Nat → Sh.Bk → Prop}
theorem run_any (hR : Bk.Laws R) {w0 w : World} {rest : List Comp} {L : Lay} {c : Cg} {cnt : Nat} {st : St} {l : List Sh.Op} {ad : Option Addr} {n cp : Nat} (h : Made w0 w (shC hR L c cnt st :: rest)) (hg : Sh.Good c st) (hc : Sh.Cok c) (hn : l.length = n) (hl : n ≤ 65536) (hops : ∀ u, Made w0 u rest → OpsIn u ad l) (hok : ∀ x ∈ l, x.Ok) (hcnt : cnt + n < 18446744073709551615) (hal : ∀ k x, l[k]? = some x → Allow hR c (Sh.runS c st (l.take k)).2 x) (hev : ∀ u o, Upd Nowhere w0 u → (∀ k, o k → w0.heap.size ≤ k) → hR.Ev u o) :
 Calls Tryz.prog 20 #[.pointer (some ⟨L.s, 0, none⟩), .slice ad n cp] w fun e w' => ∃ v cnt', e = .returned v ∧ cnt' ≤ cnt + n ∧ Made w0 w' (rowW TRe 42 v n (reRow (Sh.runS c st l).1) :: shC hR L c cnt' (Sh.runS c st l).2 :: rest) := by
 obtain ⟨i0, hi, hz0, hz1, hz2⟩ := info_parts infoRe3
 obtain ⟨s, g, k, gf, gt, cf, ct, v⟩ := L
 dsimp only
 obtain ⟨FR, hFR⟩ : ∃ FR, Sh.runS c st l = FR := ⟨_, rfl⟩
 rw [hFR]
 have HFR := Lib.hid hFR
 have HM0 := Lib.hid h
 have HN := Lib.hid hn
 have HOPS := Lib.hid hops
 have HOK := Lib.hid hok
 have HAL := Lib.hid hal
 have HEV := Lib.hid hev
 clear h hn hops hok hFR hal hev
 go_enter Tryz.func20, Tryz.ntmps20
 go_wp2_with fail
 go_loopg [5, 7, 10] (n + 1) (fun gk v5 _ v10 wr => ∃ (k2 : Nat) (cnt' : Nat), n - k2 < gk ∧ k2 ≤ n ∧ cnt' ≤ cnt + k2 ∧ v10 = .int .i64 k2 ∧ Hid (Made w0 wr (rowW TRe 42 v5 k2 (reRow (Sh.runS c st (l.take k2)).1) :: shC hR ⟨s, g, k, gf, gt, cf, ct, v⟩ c cnt' (Sh.runS c st (l.take k2)).2 :: rest)))
 case atStart => exact ⟨0, cnt, by omega, Nat.zero_le _, Nat.le_refl _, rfl, Lib.hid (m_nil HM0.out TRe 42)⟩
 case round =>
  obtain ⟨k2, cnt', hgk, hin, hcn, rfl, HM⟩ := hrel
  obtain ⟨wB, rfl⟩ : ∃ x, x = wr := ⟨_, rfl⟩
  have HGK := Lib.hid hgk
  clear hgk
  rcases Nat.lt_or_ge k2 n with hlt | hge
  · obtain ⟨x, hx⟩ : ∃ x, l[k2]? = some x := ⟨l[k2]'(by rw [HN.out]; exact hlt), by simp⟩
    obtain ⟨g', o', e, q0, q1, q2, q3, q4⟩ := HOPS.out wB HM.out.drop.drop k2 x hx
    subst e
    have hI : (k2 : Int) < n := by omega
    have HX := Lib.hid (runS_take (c := c) (st := st) hx)
    have HXO := Lib.hid (HOK.out x (List.mem_of_getElem? hx))
    have HAX := Lib.hid (HAL.out k2 x hx)
    have HG := Lib.hid (hg.run hc (l := l.take k2) (fun y hy => HOK.out y (List.mem_of_mem_take hy)))
    obtain ⟨kind, x0, x1, x2, ticks⟩ := x
    dsimp only at q0 q1 q2 q3 q4
    clear hx
    go_upto_region 5 with fail
    have hA : Upd Nowhere wB (wB.alloc (.cells #[.int .i64 kind, .int .u32 x0, .int .u32 x1, .int .u64 x2, .int .u64 ticks] TOp)) := (Upd.refl _ _).alloc _
    have hB2 : Blk (wB.alloc (.cells #[.int .i64 kind, .int .u32 x0, .int .u32 x1, .int .u64 x2, .int .u64 ticks] TOp)) wB.heap.size #[.int .i64 kind, .int .u32 x0, .int .u32 x1, .int .u64 x2, .int .u64 ticks] TOp := Blk.new _ _ _
    have HM3 := Lib.hid (HM.out.old hA)
    obtain ⟨t0, t1, t2, t3, t4, _, _, _, _, _⟩ := cells5 hB2
    generalize wB.alloc (.cells #[.int .i64 kind, .int .u32 x0, .int .u32 x1, .int .u64 x2, .int .u64 ticks] TOp) = wA at *
    clear hA hB2 HM q0 q1 q2 q3 q4
    obtain ⟨o, hP, hge2, hback⟩ := Made.foc (shC hR ⟨s, g, k, gf, gt, cf, ct, v⟩ c cnt' (Sh.runS c st (l.take k2)).2) rest [rowW TRe 42 _ k2 (reRow (Sh.runS c st (l.take k2)).1)] HM3.out
    have HD := Lib.hid (do_any hR hP HG.out hc HXO.out (by omega) HAX.out (HEV.out _ _ HM3.out.upd hge2))
    have HBK := Lib.hid hback
    clear hP hback hge2
    obtain ⟨D, hD⟩ : ∃ D, Sh.doS c (Sh.runS c st (l.take k2)).2 ⟨kind, x0, x1, x2, ticks⟩ = D := ⟨_, rfl⟩
    unfold DoPost at HD
    rw [hD] at HD HX
    clear hD
    obtain ⟨V, hV⟩ : ∃ V, vre D.1 = V := ⟨_, rfl⟩
    have hbs := fun u => bs_re D.1.kind D.1.code D.1.pkt.1 D.1.pkt.2.1 D.1.pkt.2.2 D.1.rank D.1.now D.1.tok D.1.pk D.1.by_ (rOf D.1.ref) u
    have hs2 : V.toList.length = 42 := by rw [← hV]; rfl
    have ha2 : ∀ u ∈ V.toList, u.oneCell' = true := by
     have := vre_one D.1.kind D.1.code D.1.pkt.1 D.1.pkt.2.1 D.1.pkt.2.2 D.1.rank D.1.now D.1.tok D.1.pk D.1.by_ (rOf D.1.ref)
     intro u hu
     rw [← hV] at hu
     exact (Array.all_eq_true_iff_forall_mem.1 this) u (by simpa using hu)
    have hbs2 : ∀ u, (Instr.buildSlice 80 1 #[(0, .agg V)]).run Tryz.prog u = .ok (.slice (some ⟨u.heap.size, 0, none⟩) 1 1) (u.alloc (.cells V TRe)) := by rw [← hV]; exact hbs
    have HV := Lib.hid hV
    rw [hV] at HD
    clear hbs hV
    refine wp_region_lit ?_
    refine wpList_one rfl fun K hK => ?_
    go_simp
    refine hK.out _ _ ?_
    clear hK K
    try simp only [Act.put, List.setIfInBounds_toArray, List.set_cons_zero, List.set_cons_succ]
    refine wpList_one rfl fun K hK => ?_
    go_simp
    refine hK.out _ _ ?_
    clear hK K
    try simp only [Act.put, List.setIfInBounds_toArray, List.set_cons_zero, List.set_cons_succ]
    refine wpList_one rfl fun K hK => ?_
    go_simp
    refine hK.out _ _ ?_
    clear hK K
    try simp only [Act.put, List.setIfInBounds_toArray, List.set_cons_zero, List.set_cons_succ]
    refine wpList_one rfl fun K hK => ?_
    go_simp
    go_wp2_with (go_at_call 10; refine HD.out.mono ?_; rintro e w4 ⟨rfl, own4, cnt4, hle4, h4, f4⟩)
    refine hK.out _ _ ?_
    clear hK K
    try simp only [Act.put, List.setIfInBounds_toArray, List.set_cons_zero, List.set_cons_succ]
    have hM4 := HBK.out w4 own4 (shC hR ⟨s, g, k, gf, gt, cf, ct, v⟩ c cnt4 D.2) h4 f4
    refine wpList_execW (.slice (some ⟨w4.heap.size, 0, none⟩) 1 1) (exec_buildSlice (hbs2 w4)) ?_
    (try simp only [Act.put, List.setIfInBounds_toArray, List.set_cons_zero, List.set_cons_succ])
    have hM5 := hM4.old ((Upd.refl Nowhere w4).alloc (.cells V TRe))
    refine wpList_push rfl _ _ 80 rfl 0 TRe i0 (.agg zRe) 42 328 Tryz.underlying80 hi hz0 hz1 hz2 rfl (by decide) (by decide) _ k2 (reRow (Sh.runS c st (l.take k2)).1) rfl (m_own hM5 mem0) w4.heap.size 1 V.toList rfl hs2 (new_cells _ _ _) ha2 (by omega) (Nat.zero_le _) ?_
    intro v6 w6 hown6 hu6 hn6
    (try simp only [Act.put, List.setIfInBounds_toArray, List.set_cons_zero, List.set_cons_succ])
    have hM6 := m_row [] _ hM5 (Upd.refl _ _) hown6 hu6 hn6
    have HM6 : Hid (Made w0 w6 (rowW TRe 42 v6 (k2 + 1) (reRow (Sh.runS c st (l.take (k2 + 1))).1) :: shC hR ⟨s, g, k, gf, gt, cf, ct, v⟩ c cnt4 (Sh.runS c st (l.take (k2 + 1))).2 :: rest)) := Lib.hid (by
     rw [HX.out.1, HX.out.2]
     have e1 : reRow ((Sh.runS c st (l.take k2)).1 ++ [D.1]) = reRow (Sh.runS c st (l.take k2)).1 ++ V.toList := by
      unfold reRow
      rw [List.flatMap_append, ← HV.out]
      simp
     rw [e1]
     exact hM6)
    clear hM6 hM5 hM4 hown6 hu6 hn6 h4 f4 hbs2 ha2 hs2 HD HBK HV
    refine wpList_one rfl fun K hK => ?_
    go_simp
    refine hK.out _ _ ?_
    clear hK K
    try simp only [Act.put, List.setIfInBounds_toArray, List.set_cons_zero, List.set_cons_succ]
    refine wpList_nil ?_
    go_wp2_with fail
    go_roundg (n - k2)
    case rel => exact ⟨k2 + 1, cnt4, by omega, by omega, by omega, rfl, HM6⟩
    case measure => have := HGK.out; omega
  · obtain rfl : k2 = n := by omega
    have dI : decide ((k2 : Int) < k2) = false := by simp
    have hlt : l.take k2 = l := List.take_of_length_le (by rw [HN.out]; exact Nat.le_refl _)
    have hM := HM.out
    rw [hlt, HFR.out] at hM
    have HMF := Lib.hid hM
    clear hM hlt HM
    go_wp2_with fail
    go_ret
    exact ⟨_, cnt', rfl, hcn, HMF.out⟩
end
end Go.Proofs.YtpgpjjkeginbbaaGreatDoor.Shm

