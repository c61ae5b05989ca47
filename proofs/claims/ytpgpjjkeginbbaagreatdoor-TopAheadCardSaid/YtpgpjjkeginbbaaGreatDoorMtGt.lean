/- Gt0, Gt1, Gt2, one behind the other. -/
import Derived.Test.YtpgpjjkeginbbaaGreatDoorMtAdm
import Derived.Test.YtpgpjjkeginbbaaGreatDoorMtPl
namespace Go.Proofs.YtpgpjjkeginbbaaGreatDoor.Gt
open Go.RowKit Go.Proofs BigFrame
open Sh (Fl Cg)
open Tab (TM)
set_option maxHeartbeats 4000000
set_option maxRecDepth 1000000
set_option linter.unusedSimpArgs false
abbrev TG : TypeId := 185
/-- A configuration's cells, with the slice of its flows. -/
abbrev VC (c : Cg) (fv : Value) : Array Value := #[.int .i64 c.rank, .int .i64 c.back, .int .i64 c.levels, .int .i64 c.queues, .int .i64 c.packets, .int .u64 (c.bytes : Nat), .int .i64 c.share, .int .u64 (c.mtu : Nat), .int .u64 (c.rate : Nat), .int .u64 (c.burst : Nat), fv]
/-- A gate's cells: p packets of b bytes wait; its table is t. -/
abbrev GC (c : Cg) (p b t : Nat) : Array Value := #[.int .i64 c.rank, .int .i64 c.back, .int .i64 c.levels, .int .i64 c.queues, .int .i64 c.packets, .int .u64 (c.bytes : Nat), .int .i64 c.share, .int .u64 (c.mtu : Nat), .int .u64 (c.rate : Nat), .int .u64 (c.burst : Nat), .slice none 0 0, .int .i64 (p : Nat), .int .u64 (b : Nat), .pointer (some ⟨t, 0, none⟩)]
/-- A gate of the blocks own. -/
def GM (w : World) (g : Nat) (own : Nat → Prop) (c : Cg) (p b n : Nat) (m : Nat → Option Tab.Own) : Prop :=
 ∃ t ownT, Blk w g (GC c p b t) TG ∧ TM w t ownT 64 n m ∧ ¬ ownT g ∧ ∀ k, own k ↔ k = g ∨ ownT k
theorem GM.kept {w w' : World} {g p b n : Nat} {own : Nat → Prop} {c : Cg} {m : Nat → Option Tab.Own} (h : GM w g own c p b n m) {S : Nat → Prop} (hu : Upd S w w') (hS : ∀ k, own k → ¬ S k) : GM w' g own c p b n m := by
 obtain ⟨t, ownT, h1, h2, h3, h4⟩ := h
 exact ⟨t, ownT, h1.kept hu (hS g ((h4 g).2 (.inl rfl))), h2.kept hu (fun k hk => hS k ((h4 k).2 (.inr hk))), h3, h4⟩
theorem GM.lts {w : World} {g p b n k : Nat} {own : Nat → Prop} {c : Cg} {m : Nat → Option Tab.Own} (h : GM w g own c p b n m) (hk : own k) : k < w.heap.size := by
 obtain ⟨t, ownT, h1, h2, h3, h4⟩ := h
 rcases (h4 k).1 hk with rfl | hk
 · exact h1.lt
 · exact h2.lts hk
theorem total_any {w : World} {g p b n : Nat} {own : Nat → Prop} {c : Cg} {m : Nat → Option Tab.Own} (h : GM w g own c p b n m) :
 Calls Tryz.prog 71 #[.pointer (some ⟨g, 0, none⟩)] w fun e w' => e = .returned (.tuple #[.int .i64 (p : Nat), .int .u64 (b : Nat)]) ∧ Upd Nowhere w w' := by
 obtain ⟨t, ownT, h1, _⟩ := h
 have k0 : w.cell? ⟨g, 11, none⟩ = some (.int .i64 (p : Nat)) := h1.cellAt rfl
 have k1 : w.cell? ⟨g, 12, none⟩ = some (.int .u64 (b : Nat)) := h1.cellAt rfl
 clear h1
 go_enter Tryz.func71, Tryz.ntmps71
 go_wp2_with fail
 go_quiet (fail)
 go_wp2_with fail
 go_ret2
 exact ⟨rfl, (Upd.refl _ _).drewN _⟩
end Go.Proofs.YtpgpjjkeginbbaaGreatDoor.Gt
namespace Go.Proofs.YtpgpjjkeginbbaaGreatDoor.Gt
open Go.RowKit Go.Proofs BigFrame
open Sh (Fl Cg)
open Tab (TM TO VO)
open Adm (VW)
set_option maxHeartbeats 4000000
set_option maxRecDepth 1000000
set_option linter.unusedSimpArgs false
theorem in_any {w : World} {g p b n id x0 x1 x2 len : Nat} {own : Nat → Prop} {c : Cg} {m : Nat → Option Tab.Own} (h : GM w g own c p b n m) (hi : m id = some (x0, x1, x2)) (hx0 : x0 ≤ 4096) (hx1 : x1 + len ≤ 18446744073709551615) (hp : p ≤ 4096) (hb : b + len ≤ 18446744073709551615) :
 Calls Tryz.prog 107 #[.pointer (some ⟨g, 0, none⟩), .int .u32 id, .int .u64 len] w fun e w' => e = .returned (.tuple #[]) ∧ GM w' g own c (p + 1) (b + len) n (Tab.upm m id (x0 + 1, x1 + len, x2)) ∧ Upd own w w' := by
 obtain ⟨t, ownT, h1, h2, h3, h4⟩ := h
 have HG := Lib.hid (Tab.t_some h2 hi)
 have hP := fun u => Adm.plus_any x0 x1 len u hx0 hx1
 have hQ := fun u => Adm.plus_any p b len u hp hb
 generalize x0 + 1 = y0 at *
 generalize x1 + len = y1 at *
 generalize p + 1 = p1 at *
 generalize b + len = b1 at *
 have HP := fun u => Lib.hid (hP u)
 have HQ := fun u => Lib.hid (hQ u)
 clear hP hQ
 have k13 : w.cell? ⟨g, 13, none⟩ = some (.pointer (some ⟨t, 0, none⟩)) := h1.cellAt rfl
 have H1 := Lib.hid h1
 have H2 := Lib.hid h2
 have HI := Lib.hid hi
 clear h1 h2 hi
 go_enter Tryz.func107, Tryz.ntmps107
 go_wp2_with fail
 refine (HG.out).mono ?_
 rintro e w1 ⟨rfl, u1⟩
 go_upto_region 1 with fail
 have hB : Blk (w1.alloc (.cells #[.int .i64 x0, .int .u64 x1, .int .u64 x2] TO)) w1.heap.size #[.int .i64 x0, .int .u64 x1, .int .u64 x2] TO := Blk.new _ _ _
 have HUA : Hid (Upd Nowhere w (w1.alloc (.cells #[.int .i64 x0, .int .u64 x1, .int .u64 x2] TO))) := Lib.hid (u1.alloc _)
 have hge := u1.size
 obtain ⟨pb, hpb⟩ : ∃ pb, w1.heap.size = pb := ⟨_, rfl⟩
 have HPB : Hid (w.heap.size ≤ pb) := Lib.hid (by omega)
 rw [hpb] at hB
 simp only [hpb]
 clear hpb hge k13
 generalize w1.alloc (.cells #[.int .i64 x0, .int .u64 x1, .int .u64 x2] TO) = wA at *
 obtain ⟨c0, c1, c2, _, _, _⟩ := cells3 hB
 go_wp2_with fail
 refine (HP _).out.mono ?_
 rintro e w2 ⟨rfl, u2⟩
 have hB2 := hB.kept u2 (fun h => h)
 have HU2 := Lib.hid (HUA.out.trans u2 (fun _ _ h => h))
 clear c0 c1 c2 hB u2
 obtain ⟨c0, c1, c2, z0, z1, z2⟩ := cells3 hB2
 have hU3 : Upd Nowhere w ((w2.setCell ⟨pb, 0, none⟩ (.int .i64 (y0 : Nat))).setCell ⟨pb, 1, none⟩ (.int .u64 (y1 : Nat))) := Upd.setNew (Upd.setNew HU2.out HPB.out _) HPB.out _
 have hB3 : Blk ((w2.setCell ⟨pb, 0, none⟩ (.int .i64 (y0 : Nat))).setCell ⟨pb, 1, none⟩ (.int .u64 (y1 : Nat))) pb #[.int .i64 (y0 : Nat), .int .u64 (y1 : Nat), .int .u64 x2] TO := by simpa using (hB2.set 0 _).set 1 _
 clear hB2
 go_upto_region 2 with fail
 generalize (w2.setCell ⟨pb, 0, none⟩ (.int .i64 (y0 : Nat))).setCell ⟨pb, 1, none⟩ (.int .u64 (y1 : Nat)) = w3 at *
 have h13 := (H1.out.kept hU3 (fun h => h)).cellAt (i := 13) rfl
 obtain ⟨d0, d1, d2, _, _, _⟩ := cells3 hB3
 refine wp_region_tail 6 (by kernel_rfl) (by kernel_rfl) ?_
 simp only [List.take_succ_cons, List.take_zero, List.drop_succ_cons, List.drop_zero]
 repeat (go_big_quiet_step (fail))
 refine wpQuiet_nil ?_
 rintro _ ⟨nq, rfl⟩
 have hU4 := hU3.drewN nq
 generalize w3.drewN nq = w4 at *
 go_wp2_with fail
 refine (Tab.t_set (H2.out.old hU4) HI.out).mono ?_
 rintro e w5 ⟨rfl, hT5, u5⟩
 go_wp2_with fail
 refine Stage.out ?_
 have hG5 := (H1.out.kept hU4 (fun h => h)).kept u5 h3
 have e11 : w5.cell? ⟨g, 11, none⟩ = some (.int .i64 (p : Nat)) := hG5.cellAt rfl
 have e12 : w5.cell? ⟨g, 12, none⟩ = some (.int .u64 (b : Nat)) := hG5.cellAt rfl
 have HU5 : Hid (Upd own w w5) := Lib.hid ((hU4.any _).trans (u5.mono fun k _ hk => (h4 k).2 (.inr hk)) (fun _ _ h => h))
 have HT5 := Lib.hid hT5
 have HG5 := Lib.hid hG5
 clear hT5 hG5 u5 d0 d1 d2 hB3 hU3 hU4 h13
 go_wp2_with fail
 refine (HQ _).out.mono ?_
 rintro e w6 ⟨rfl, u6⟩
 have hG6 := HG5.out.kept u6 (fun h => h)
 have j11 : w6.cell? ⟨g, 11, none⟩ = some (.int .i64 (p : Nat)) := hG6.cellAt rfl
 have j12 : w6.cell? ⟨g, 12, none⟩ = some (.int .u64 (b : Nat)) := hG6.cellAt rfl
 have z11 := hG6.free 11
 have z12 := hG6.free 12
 have hu : Upd (fun q => q = g) w6 ((w6.setCell ⟨g, 11, none⟩ (.int .i64 (p1 : Nat))).setCell ⟨g, 12, none⟩ (.int .u64 (b1 : Nat))) := Upd.setCell (S := fun q => q = g) (a := ⟨g, 12, none⟩) (Upd.setCell (S := fun q => q = g) (a := ⟨g, 11, none⟩) (Upd.refl _ _) (fun _ => rfl) _) (fun _ => rfl) _
 have HGF : Hid (GM ((w6.setCell ⟨g, 11, none⟩ (.int .i64 (p1 : Nat))).setCell ⟨g, 12, none⟩ (.int .u64 (b1 : Nat))) g own c p1 b1 n (Tab.upm m id (y0, y1, x2))) := Lib.hid ⟨t, ownT, by simpa using (hG6.set 11 (.int .i64 (p1 : Nat))).set 12 (.int .u64 (b1 : Nat)), (HT5.out.old u6).kept hu (fun k hk e => h3 (by rw [← e]; exact hk)), h3, h4⟩
 have HUF : Hid (Upd own w ((w6.setCell ⟨g, 11, none⟩ (.int .i64 (p1 : Nat))).setCell ⟨g, 12, none⟩ (.int .u64 (b1 : Nat)))) := Lib.hid ((HU5.out.trans (u6.any _) (fun _ _ h => h)).trans hu (fun k _ e => (h4 k).2 (.inl e)))
 clear hG6 hu u6
 go_wp2_with fail
 go_end0
 exact ⟨rfl, HGF.out, HUF.out⟩
end Go.Proofs.YtpgpjjkeginbbaaGreatDoor.Gt
namespace Go.Proofs.YtpgpjjkeginbbaaGreatDoor.Gt
open Go.RowKit Go.Proofs BigFrame
open Sh (Fl Cg)
open Tab (TM TO VO)
open Adm (VW)
set_option maxHeartbeats 4000000
set_option maxRecDepth 1000000
set_option linter.unusedSimpArgs false
theorem out_any {w : World} {g p b n id x0 x1 x2 len : Nat} {own : Nat → Prop} {c : Cg} {m : Nat → Option Tab.Own} (h : GM w g own c p b n m) (hi : m id = some (x0, x1, x2)) (hx0 : 1 ≤ x0) (hx0' : x0 ≤ 4096) (hx1 : len ≤ x1) (hx1' : x1 ≤ 18446744073709551615) (hp : 1 ≤ p) (hp' : p ≤ 4096) (hb : len ≤ b) (hb' : b ≤ 18446744073709551615) :
 Calls Tryz.prog 67 #[.pointer (some ⟨g, 0, none⟩), .int .u32 id, .int .u64 len] w fun e w' => e = .returned (.int .i64 0) ∧ GM w' g own c (p - 1) (b - len) n (Tab.upm m id (x0 - 1, x1 - len, x2)) ∧ Upd own w w' := by
 obtain ⟨t, ownT, h1, h2, h3, h4⟩ := h
 have HG := Lib.hid (Tab.t_some h2 hi)
 have hP := fun u => Adm.less_any x0 x1 len u hx0 hx0' hx1 hx1'
 have hQ := fun u => Adm.less_any p b len u hp hp' hb hb'
 generalize x0 - 1 = y0 at *
 generalize x1 - len = y1 at *
 generalize p - 1 = p1 at *
 generalize b - len = b1 at *
 have t0 : ((x0 : Int) == 0) = false := by simp; omega
 have t1 : decide (x1 < len) = false := decide_eq_false (by omega)
 have HP := fun u => Lib.hid (hP u)
 have HQ := fun u => Lib.hid (hQ u)
 clear hP hQ
 have k13 : w.cell? ⟨g, 13, none⟩ = some (.pointer (some ⟨t, 0, none⟩)) := h1.cellAt rfl
 have H1 := Lib.hid h1
 have H2 := Lib.hid h2
 have HI := Lib.hid hi
 clear h1 h2 hi
 go_enter Tryz.func67, Tryz.ntmps67
 go_wp2_with fail
 refine (HG.out).mono ?_
 rintro e w1 ⟨rfl, u1⟩
 go_upto_region 6 with fail
 have hB : Blk (w1.alloc (.cells #[.int .i64 x0, .int .u64 x1, .int .u64 x2] TO)) w1.heap.size #[.int .i64 x0, .int .u64 x1, .int .u64 x2] TO := Blk.new _ _ _
 have HUA : Hid (Upd Nowhere w (w1.alloc (.cells #[.int .i64 x0, .int .u64 x1, .int .u64 x2] TO))) := Lib.hid (u1.alloc _)
 have hge := u1.size
 obtain ⟨pb, hpb⟩ : ∃ pb, w1.heap.size = pb := ⟨_, rfl⟩
 have HPB : Hid (w.heap.size ≤ pb) := Lib.hid (by omega)
 rw [hpb] at hB
 simp only [hpb]
 clear hpb hge k13
 generalize w1.alloc (.cells #[.int .i64 x0, .int .u64 x1, .int .u64 x2] TO) = wA at *
 obtain ⟨c0, c1, c2, _, _, _⟩ := cells3 hB
 go_wp2_with fail
 refine (HP _).out.mono ?_
 rintro e w2 ⟨rfl, u2⟩
 have hB2 := hB.kept u2 (fun h => h)
 have HU2 := Lib.hid (HUA.out.trans u2 (fun _ _ h => h))
 clear c0 c1 c2 hB u2
 obtain ⟨c0, c1, c2, z0, z1, z2⟩ := cells3 hB2
 have hU3 : Upd Nowhere w ((w2.setCell ⟨pb, 0, none⟩ (.int .i64 (y0 : Nat))).setCell ⟨pb, 1, none⟩ (.int .u64 (y1 : Nat))) := Upd.setNew (Upd.setNew HU2.out HPB.out _) HPB.out _
 have hB3 : Blk ((w2.setCell ⟨pb, 0, none⟩ (.int .i64 (y0 : Nat))).setCell ⟨pb, 1, none⟩ (.int .u64 (y1 : Nat))) pb #[.int .i64 (y0 : Nat), .int .u64 (y1 : Nat), .int .u64 x2] TO := by simpa using (hB2.set 0 _).set 1 _
 clear hB2
 go_upto_region 9 with fail
 generalize (w2.setCell ⟨pb, 0, none⟩ (.int .i64 (y0 : Nat))).setCell ⟨pb, 1, none⟩ (.int .u64 (y1 : Nat)) = w3 at *
 have h13 := (H1.out.kept hU3 (fun h => h)).cellAt (i := 13) rfl
 obtain ⟨d0, d1, d2, _, _, _⟩ := cells3 hB3
 refine wp_region_tail 6 (by kernel_rfl) (by kernel_rfl) ?_
 simp only [List.take_succ_cons, List.take_zero, List.drop_succ_cons, List.drop_zero]
 repeat (go_big_quiet_step (fail))
 refine wpQuiet_nil ?_
 rintro _ ⟨nq, rfl⟩
 have hU4 := hU3.drewN nq
 generalize w3.drewN nq = w4 at *
 go_wp2_with fail
 refine (Tab.t_set (H2.out.old hU4) HI.out).mono ?_
 rintro e w5 ⟨rfl, hT5, u5⟩
 go_wp2_with fail
 refine Stage.out ?_
 have hG5 := (H1.out.kept hU4 (fun h => h)).kept u5 h3
 have e11 : w5.cell? ⟨g, 11, none⟩ = some (.int .i64 (p : Nat)) := hG5.cellAt rfl
 have e12 : w5.cell? ⟨g, 12, none⟩ = some (.int .u64 (b : Nat)) := hG5.cellAt rfl
 have HU5 : Hid (Upd own w w5) := Lib.hid ((hU4.any _).trans (u5.mono fun k _ hk => (h4 k).2 (.inr hk)) (fun _ _ h => h))
 have HT5 := Lib.hid hT5
 have HG5 := Lib.hid hG5
 clear hT5 hG5 u5 d0 d1 d2 hB3 hU3 hU4 h13
 go_wp2_with fail
 refine (HQ _).out.mono ?_
 rintro e w6 ⟨rfl, u6⟩
 have hG6 := HG5.out.kept u6 (fun h => h)
 have j11 : w6.cell? ⟨g, 11, none⟩ = some (.int .i64 (p : Nat)) := hG6.cellAt rfl
 have j12 : w6.cell? ⟨g, 12, none⟩ = some (.int .u64 (b : Nat)) := hG6.cellAt rfl
 have z11 := hG6.free 11
 have z12 := hG6.free 12
 have hu : Upd (fun q => q = g) w6 ((w6.setCell ⟨g, 11, none⟩ (.int .i64 (p1 : Nat))).setCell ⟨g, 12, none⟩ (.int .u64 (b1 : Nat))) := Upd.setCell (S := fun q => q = g) (a := ⟨g, 12, none⟩) (Upd.setCell (S := fun q => q = g) (a := ⟨g, 11, none⟩) (Upd.refl _ _) (fun _ => rfl) _) (fun _ => rfl) _
 have HGF : Hid (GM ((w6.setCell ⟨g, 11, none⟩ (.int .i64 (p1 : Nat))).setCell ⟨g, 12, none⟩ (.int .u64 (b1 : Nat))) g own c p1 b1 n (Tab.upm m id (y0, y1, x2))) := Lib.hid ⟨t, ownT, by simpa using (hG6.set 11 (.int .i64 (p1 : Nat))).set 12 (.int .u64 (b1 : Nat)), (HT5.out.old u6).kept hu (fun k hk e => h3 (by rw [← e]; exact hk)), h3, h4⟩
 have HUF : Hid (Upd own w ((w6.setCell ⟨g, 11, none⟩ (.int .i64 (p1 : Nat))).setCell ⟨g, 12, none⟩ (.int .u64 (b1 : Nat)))) := Lib.hid ((HU5.out.trans (u6.any _) (fun _ _ h => h)).trans hu (fun k _ e => (h4 k).2 (.inl e)))
 clear hG6 hu u6
 go_wp2_with fail
 go_ret
 exact ⟨rfl, HGF.out, HUF.out⟩
end Go.Proofs.YtpgpjjkeginbbaaGreatDoor.Gt

