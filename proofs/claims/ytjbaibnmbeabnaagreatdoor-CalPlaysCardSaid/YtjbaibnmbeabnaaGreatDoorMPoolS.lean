/- PoolS, PoolS2, PoolS3, PoolS4, PoolS5, PoolS6, PoolS7, one behind the other. -/
import Derived.Test.YtjbaibnmbeabnaaGreatDoorProg
import Derived.Test.YtjbaibnmbeabnaaGreatDoorPoolCore
import Derived.Test.YtjbaibnmbeabnaaGreatDoorMix2
import Derived.Lib.Hide
import Derived.BigQuiet
import Derived.Deep.DeepCutAuto
import Derived.Deep.CutBlock
import Derived.Test.YtjbaibnmbeabnaaGreatDoorPoolHas
import Derived.Laws.MakeOwn
namespace Go.Proofs.YtjbaibnmbeabnaaGreatDoor.PoolS
open Go.RowKit Go.Proofs BigFrame Pool
abbrev TP : TypeId := 120
abbrev TC : TypeId := 127
abbrev TQ : TypeId := 89
abbrev P (w : World) (pb : Nat) (cv : Value) (qb most Qn : Nat) (S : PS ByteArray) : Prop := PIn (Value.string) TP TC TQ w pb cv qb most Qn S
set_option maxHeartbeats 4000000
set_option maxRecDepth 1000000
section
variable {w : World} {pb : Nat} {cv : Value} {qb most Qn : Nat} {S : PS ByteArray}
theorem taken_any (h : P w pb cv qb most Qn S) {i : Nat} (hi : i < S.m) :
    Calls Tryz.prog 77 #[.pointer (some ⟨pb, 0, none⟩), .int .i64 i] w fun e w' => e = .returned (.bool (S.tk i)) ∧ w = w' := by
  obtain ⟨m, hm⟩ : ∃ m, S.m = m := ⟨_, rfl⟩
  obtain ⟨g, c, rfl, hc⟩ := h.arr (by omega)
  have hmost := h.mst
  obtain ⟨c0, c1, c2, c3, c4, z0, z1, z2, z3, z4⟩ := cells5 h.blk
  obtain ⟨k0, k1, k2, k3, f0, f1, f2, f3⟩ := h.cells hi
  obtain ⟨t, ht⟩ : ∃ t, S.tk i = t := ⟨_, rfl⟩
  rw [hm] at c0 hi hmost
  rw [ht] at k2 ⊢
  have e1 : (i : Int) < m := by omega
  clear h hm ht
  go_enter Tryz.func77, Tryz.ntmps77
  go_wp2_with fail
  go_ret
  exact ⟨rfl, rfl⟩
theorem len_any (h : P w pb cv qb most Qn S) : Calls Tryz.prog 53 #[.pointer (some ⟨pb, 0, none⟩)] w fun e w' => e = .returned (.int .i64 S.n) ∧ w = w' := by
  obtain ⟨c0, c1, c2, c3, c4, z0, z1, z2, z3, z4⟩ := cells5 h.blk
  clear h
  go_enter Tryz.func53, Tryz.ntmps53
  go_wp2_with fail
  go_ret
  exact ⟨rfl, rfl⟩
theorem has_any (h : P w pb cv qb most Qn S) {q : Nat} (hq : q < Qn) : Calls Tryz.prog 78 #[.pointer (some ⟨pb, 0, none⟩), .int .i64 q] w fun e w' => e = .returned (.bool true) ∧ w = w' := by
  obtain ⟨c0, c1, c2, c3, c4, z0, z1, z2, z3, z4⟩ := cells5 h.blk
  have d1 : decide ((q : Int) < Qn) = true := decide_eq_true (by omega)
  have d2 : decide (q < Qn) = true := decide_eq_true hq
  clear h
  go_enter Tryz.func78, Tryz.ntmps78
  go_wp2_with fail
  go_ret
  exact ⟨rfl, rfl⟩
theorem head_some (h : P w pb cv qb most Qn S) {q i : Nat} (hq : q < Qn) (hi : S.hd q = (i : Int)) (him : i < 4096) :
    Calls Tryz.prog 52 #[.pointer (some ⟨pb, 0, none⟩), .int .i64 q] w fun e w' => e = .returned (.tuple #[.int .i64 i, .bool true]) ∧ ∃ k, w' = w.drewN k := by
  obtain ⟨c0, c1, c2, c3, c4, z0, z1, z2, z3, z4⟩ := cells5 h.blk
  obtain ⟨k0, k1, f0, f1⟩ := h.qcells hq
  have hqn := h.qn
  rw [hi] at k0
  have HH := Lib.hid (has_any h hq)
  have d1 : decide ((q : Int) < Qn) = true := decide_eq_true (by omega)
  have d3 : ((i : Int) == -1) = false := by simp
  have e1 : (q : Int) < Qn := by omega
  clear h hi
  go_enter Tryz.func52, Tryz.ntmps52
  go_wp2_with fail
  refine (HH.out).mono ?_
  rintro e w' ⟨rfl, rfl⟩
  go_wp2_with fail
  go_ret2
  exact ⟨rfl, 0, rfl⟩
theorem head_none (h : P w pb cv qb most Qn S) {q : Nat} (hq : q < Qn) (hi : S.hd q = -1) :
    Calls Tryz.prog 52 #[.pointer (some ⟨pb, 0, none⟩), .int .i64 q] w fun e w' => e = .returned (.tuple #[.int .i64 0, .bool false]) ∧ ∃ k, w' = w.drewN k := by
  obtain ⟨c0, c1, c2, c3, c4, z0, z1, z2, z3, z4⟩ := cells5 h.blk
  obtain ⟨k0, k1, f0, f1⟩ := h.qcells hq
  have hqn := h.qn
  rw [hi] at k0
  have HH := Lib.hid (has_any h hq)
  have d1 : decide ((q : Int) < Qn) = true := decide_eq_true (by omega)
  have e1 : (q : Int) < Qn := by omega
  clear h hi
  go_enter Tryz.func52, Tryz.ntmps52
  go_wp2_with fail
  refine (HH.out).mono ?_
  rintro e w' ⟨rfl, rfl⟩
  go_wp2_with fail
  go_ret2
  exact ⟨rfl, 0, rfl⟩
theorem get_any (h : P w pb cv qb most Qn S) {i : Nat} (hi : i < S.m) (ht : S.tk i = true) :
    Calls Tryz.prog 75 #[.pointer (some ⟨pb, 0, none⟩), .int .i64 i] w fun e w' => e = .returned (.tuple #[Value.string (S.x i), .bool true]) ∧ ∃ k, w' = w.drewN k := by
  have HT := Lib.hid (taken_any h hi)
  rw [ht] at HT
  obtain ⟨m, hm⟩ : ∃ m, S.m = m := ⟨_, rfl⟩
  obtain ⟨g, c, rfl, hc⟩ := h.arr (by omega)
  have hmost := h.mst
  obtain ⟨c0, c1, c2, c3, c4, z0, z1, z2, z3, z4⟩ := cells5 h.blk
  obtain ⟨k0, k1, k2, k3, f0, f1, f2, f3⟩ := h.cells hi
  rw [hm] at c0 hi hmost
  have e1 : (i : Int) < m := by omega
  clear h hm ht
  go_enter Tryz.func75, Tryz.ntmps75
  go_wp2_with fail
  refine (HT.out).mono ?_
  rintro e w' ⟨rfl, rfl⟩
  go_wp2_with fail
  go_ret2
  exact ⟨rfl, 0, rfl⟩
end
end Go.Proofs.YtjbaibnmbeabnaaGreatDoor.PoolS
namespace Go.Proofs.YtjbaibnmbeabnaaGreatDoor.PoolS
open Go.RowKit Go.Proofs BigFrame Pool
set_option maxHeartbeats 4000000
set_option maxRecDepth 1000000
section
variable {w : World} {pb : Nat} {cv : Value} {qb most Qn : Nat} {S : PS ByteArray}
theorem append_none (h : P w pb cv qb most Qn S) {q i : Nat} (hq : q < Qn) (hi : i < S.m) (ht : S.tk i = true) (hd : S.qd i = false) (h0 : S.hd q = -1) :
    Calls Tryz.prog 71 #[.pointer (some ⟨pb, 0, none⟩), .int .i64 q, .int .i64 i] w fun e w' => e = .returned (.int .i64 0) ∧ P w' pb cv qb most Qn (appS0 S q i) ∧ Upd (POf pb qb cv) w w' := by
  have HH := Lib.hid (has_any h hq)
  have HT := Lib.hid (taken_any h hi)
  rw [ht] at HT
  obtain ⟨g, m, c, rfl, hm, hc⟩ := h.arr2 (by omega)
  have hmost := h.mst
  have hqn := h.qn
  obtain ⟨c0, c1, c2, c3, c4, z0, z1, z2, z3, z4⟩ := cells5 h.blk
  obtain ⟨k0, k1, k2, k3, f0, f1, f2, f3⟩ := h.cells hi
  obtain ⟨q0, q1, y0, y1⟩ := h.qcells hq
  rw [hm] at hi hmost
  rw [hd] at k3
  rw [h0] at q0
  have e1 : (i : Int) < m := by omega
  have e2 : (q : Int) < Qn := by omega
  have H0 := Lib.hid h
  have HM := Lib.hid hm
  have HQ0 := Lib.hid h0
  clear h hm ht hd h0
  go_enter Tryz.func71, Tryz.ntmps71
  go_wp2_with fail
  refine (HH.out).mono ?_
  rintro e w' ⟨rfl, rfl⟩
  go_wp2_with fail
  refine (HT.out).mono ?_
  rintro e w' ⟨rfl, rfl⟩
  go_wp2_with fail
  refine wp_region_tail 10 (by kernel_rfl) (by kernel_rfl) ?_
  simp only [List.take_succ_cons, List.take_zero, List.drop_succ_cons, List.drop_zero]
  repeat (go_big_quiet_step (fail))
  refine wpQuiet_nil ?_
  rintro _ ⟨nq, rfl⟩
  go_wp2_with fail
  refine Stage.out ?_
  have H1 := (((H0.out.old ((Upd.refl _ _).drewN nq)).setNx i (-1)).setQd i true)
  have U1 : Upd (POf pb qb (.slice (some ⟨g, 0, none⟩) m c)) w (((w.drewN nq).setCell ⟨g, i * 4 + 1, none⟩ (.int .i32 (-1))).setCell ⟨g, i * 4 + 3, none⟩ (.bool true)) := (((Upd.refl _ _).drewN nq).setCell (a := ⟨g, _, none⟩) (fun _ => .inr (.inr rfl)) _).setCell (a := ⟨g, _, none⟩) (fun _ => .inr (.inr rfl)) _
  obtain ⟨c0, c1, c2, c3, c4, z0, z1, z2, z3, z4⟩ := cells5 H1.blk
  obtain ⟨q0, q1, y0, y1⟩ := H1.qcells hq
  simp only [HQ0.out] at q0
  have HS := Lib.hid ((H1.setHd q i).setTl q i)
  have HU := Lib.hid ((U1.setCell (a := ⟨qb, q * 2, none⟩) (fun _ => .inr (.inl rfl)) (.int .i32 i)).setCell (a := ⟨qb, q * 2 + 1, none⟩) (fun _ => .inr (.inl rfl)) (.int .i32 i))
  clear H1 U1
  go_wp2_with fail
  go_ret
  exact ⟨rfl, HS.out, HU.out⟩
theorem append_some (h : P w pb cv qb most Qn S) {q i j t : Nat} (hq : q < Qn) (hi : i < S.m) (ht : S.tk i = true) (hd : S.qd i = false) (h0 : S.hd q = (j : Int)) (h9 : S.tl q = (t : Int)) (htm : t < S.m) :
    Calls Tryz.prog 71 #[.pointer (some ⟨pb, 0, none⟩), .int .i64 q, .int .i64 i] w fun e w' => e = .returned (.int .i64 0) ∧ P w' pb cv qb most Qn (appS1 S q i t) ∧ Upd (POf pb qb cv) w w' := by
  have HH := Lib.hid (has_any h hq)
  have HT := Lib.hid (taken_any h hi)
  rw [ht] at HT
  obtain ⟨g, m, c, rfl, hm, hc⟩ := h.arr2 (by omega)
  have hmost := h.mst
  have hqn := h.qn
  obtain ⟨c0, c1, c2, c3, c4, z0, z1, z2, z3, z4⟩ := cells5 h.blk
  obtain ⟨k0, k1, k2, k3, f0, f1, f2, f3⟩ := h.cells hi
  obtain ⟨q0, q1, y0, y1⟩ := h.qcells hq
  have hj : ((j : Int) == -1) = false := by simp
  rw [hm] at hi hmost htm
  rw [hd] at k3
  rw [h0] at q0
  have e1 : (i : Int) < m := by omega
  have e2 : (q : Int) < Qn := by omega
  have e3 : (t : Int) < m := by omega
  have H0 := Lib.hid h
  have HM := Lib.hid hm
  have HT0 := Lib.hid h9
  have HQ0 := Lib.hid h0
  have HTM : Hid (t < S.m) := Lib.hid (by omega)
  clear h hm ht hd h0 h9
  go_enter Tryz.func71, Tryz.ntmps71
  go_wp2_with fail
  refine (HH.out).mono ?_
  rintro e w' ⟨rfl, rfl⟩
  go_wp2_with fail
  refine (HT.out).mono ?_
  rintro e w' ⟨rfl, rfl⟩
  go_wp2_with fail
  refine wp_region_tail 10 (by kernel_rfl) (by kernel_rfl) ?_
  simp only [List.take_succ_cons, List.take_zero, List.drop_succ_cons, List.drop_zero]
  repeat (go_big_quiet_step (fail))
  refine wpQuiet_nil ?_
  rintro _ ⟨nq, rfl⟩
  go_wp2_with fail
  refine Stage.out ?_
  have H1 := Lib.hid (((H0.out.old ((Upd.refl _ _).drewN nq)).setNx i (-1)).setQd i true)
  have U1 : Hid (Upd (POf pb qb (.slice (some ⟨g, 0, none⟩) m c)) w (((w.drewN nq).setCell ⟨g, i * 4 + 1, none⟩ (.int .i32 (-1))).setCell ⟨g, i * 4 + 3, none⟩ (.bool true))) := Lib.hid ((((Upd.refl _ _).drewN nq).setCell (a := ⟨g, _, none⟩) (fun _ => .inr (.inr rfl)) _).setCell (a := ⟨g, _, none⟩) (fun _ => .inr (.inr rfl)) _)
  clear c0 c1 c2 c3 c4 z0 z1 z2 z3 z4 k0 k1 k2 k3 f0 f1 f2 f3 q0 q1 y0 y1 HH HT
  generalize ((w.drewN nq).setCell ⟨g, i * 4 + 1, none⟩ (.int .i32 (-1))).setCell ⟨g, i * 4 + 3, none⟩ (.bool true) = w2 at *
  obtain ⟨c0, c1, c2, c3, c4, z0, z1, z2, z3, z4⟩ := cells5 H1.out.blk
  obtain ⟨q0, q1, y0, y1⟩ := H1.out.qcells hq
  obtain ⟨k0, k1, k2, k3, f0, f1, f2, f3⟩ := H1.out.cells HTM.out
  simp only [HT0.out, HQ0.out] at q0 q1
  go_wp2_with fail
  refine wp_region_tail 12 (by kernel_rfl) (by kernel_rfl) ?_
  simp only [List.take_succ_cons, List.take_zero, List.drop_succ_cons, List.drop_zero]
  repeat (go_big_quiet_step (fail))
  refine wpQuiet_nil ?_
  rintro _ ⟨nq2, rfl⟩
  go_wp2_with fail
  refine Stage.out ?_
  have H2 := (H1.out.old ((Upd.refl _ _).drewN nq2)).setNx t i
  have U2 := (U1.out.drewN nq2).setCell (a := ⟨g, t * 4 + 1, none⟩) (fun _ => .inr (.inr rfl)) (.int .i32 i)
  obtain ⟨q2, q3, y2, y3⟩ := H2.qcells hq
  have HS := Lib.hid (H2.setTl q i)
  have HU := Lib.hid (U2.setCell (a := ⟨qb, q * 2 + 1, none⟩) (fun _ => .inr (.inl rfl)) (.int .i32 i))
  clear H2 U2
  go_wp2_with fail
  go_ret
  exact ⟨rfl, HS.out, HU.out⟩
end
end Go.Proofs.YtjbaibnmbeabnaaGreatDoor.PoolS
namespace Go.Proofs.YtjbaibnmbeabnaaGreatDoor.PoolS
open Go.RowKit Go.Proofs BigFrame Pool
set_option maxHeartbeats 4000000
set_option maxRecDepth 1000000
section
variable {w : World} {pb : Nat} {cv : Value} {qb most Qn : Nat} {S : PS ByteArray}
theorem popS_none {S : PS ByteArray} {q i : Nat} (h : S.nx i = -1) : popS S q i = { S with nx := upd S.nx i (-1), qd := upd S.qd i false, hd := upd S.hd q (-1), tl := upd S.tl q (-1) } := by
  unfold popS; rw [if_pos h, h]
theorem popS_some {S : PS ByteArray} {q i j : Nat} (h : S.nx i = (j : Int)) : popS S q i = { S with nx := upd S.nx i (-1), qd := upd S.qd i false, hd := upd S.hd q (j : Int) } := by
  unfold popS; rw [if_neg (by omega), h]
theorem giveS_eq {S : PS ByteArray} {i d : Nat} {z : ByteArray} (h : S.n - 1 = d) : giveS S i z = { S with x := upd S.x i z, nx := upd S.nx i S.free, tk := upd S.tk i false, qd := upd S.qd i false, free := i, n := d } := by
  unfold giveS; rw [h]
theorem pop_last (h : P w pb cv qb most Qn S) {q i : Nat} (hq : q < Qn) (hi : i < S.m) (h0 : S.hd q = (i : Int)) (hn : S.nx i = -1) :
    Calls Tryz.prog 50 #[.pointer (some ⟨pb, 0, none⟩), .int .i64 q] w fun e w' => e = .returned (.tuple #[.int .i64 i, .bool true]) ∧ P w' pb cv qb most Qn (popS S q i) ∧ Upd (POf pb qb cv) w w' := by
  have hmost := h.mst
  have HH := Lib.hid (head_some h hq h0 (by omega))
  rw [popS_none hn]
  obtain ⟨g, m, c, rfl, hm, hc⟩ := h.arr2 (by omega)
  have hqn := h.qn
  obtain ⟨c0, c1, c2, c3, c4, z0, z1, z2, z3, z4⟩ := cells5 h.blk
  obtain ⟨k0, k1, k2, k3, f0, f1, f2, f3⟩ := h.cells hi
  obtain ⟨q0, q1, y0, y1⟩ := h.qcells hq
  rw [hm] at hi hmost
  rw [h0] at q0
  rw [hn] at k1
  have e1 : (i : Int) < m := by omega
  have e2 : (q : Int) < Qn := by omega
  have H0 := Lib.hid h
  have HM := Lib.hid hm
  have HI : Hid (i < S.m) := Lib.hid (by omega)
  clear h hm h0 hn
  go_enter Tryz.func50, Tryz.ntmps50
  go_wp2_with fail
  refine (HH.out).mono ?_
  rintro e w1 ⟨rfl, nq1, rfl⟩
  have H1 := Lib.hid (((H0.out.old ((Upd.refl _ _).drewN nq1)).setHd q (-1)).setTl q (-1))
  have U1 : Hid (Upd (POf pb qb (.slice (some ⟨g, 0, none⟩) m c)) w (((w.drewN nq1).setCell ⟨qb, q * 2, none⟩ (.int .i32 (-1))).setCell ⟨qb, q * 2 + 1, none⟩ (.int .i32 (-1)))) := Lib.hid ((((Upd.refl _ _).drewN nq1).setCell (a := ⟨qb, _, none⟩) (fun _ => .inr (.inl rfl)) _).setCell (a := ⟨qb, _, none⟩) (fun _ => .inr (.inl rfl)) _)
  go_upto_region 8 with fail
  clear c0 c1 c2 c3 c4 z0 z1 z2 z3 z4 k0 k1 k2 k3 f0 f1 f2 f3 q0 q1 y0 y1 HH
  generalize ((w.drewN nq1).setCell ⟨qb, q * 2, none⟩ (.int .i32 (-1))).setCell ⟨qb, q * 2 + 1, none⟩ (.int .i32 (-1)) = w2 at *
  obtain ⟨c0, c1, c2, c3, c4, z0, z1, z2, z3, z4⟩ := cells5 H1.out.blk
  obtain ⟨k0, k1, k2, k3, f0, f1, f2, f3⟩ := H1.out.cells HI.out
  go_wp2_with fail
  refine wp_region_tail 10 (by kernel_rfl) (by kernel_rfl) ?_
  simp only [List.take_succ_cons, List.take_zero, List.drop_succ_cons, List.drop_zero]
  repeat (go_big_quiet_step (fail))
  refine wpQuiet_nil ?_
  rintro _ ⟨nq, rfl⟩
  go_wp2_with fail
  refine Stage.out ?_
  have HS := Lib.hid (((H1.out.old ((Upd.refl _ _).drewN nq)).setNx i (-1)).setQd i false)
  have HU := Lib.hid (((U1.out.drewN nq).setCell (a := ⟨g, i * 4 + 1, none⟩) (fun _ => .inr (.inr rfl)) (.int .i32 (-1))).setCell (a := ⟨g, i * 4 + 3, none⟩) (fun _ => .inr (.inr rfl)) (.bool false))
  go_wp2_with fail
  go_ret2
  exact ⟨rfl, HS.out, HU.out⟩
theorem pop_more (h : P w pb cv qb most Qn S) {q i j : Nat} (hq : q < Qn) (hi : i < S.m) (h0 : S.hd q = (i : Int)) (hn : S.nx i = (j : Int)) :
    Calls Tryz.prog 50 #[.pointer (some ⟨pb, 0, none⟩), .int .i64 q] w fun e w' => e = .returned (.tuple #[.int .i64 i, .bool true]) ∧ P w' pb cv qb most Qn (popS S q i) ∧ Upd (POf pb qb cv) w w' := by
  have hmost := h.mst
  have HH := Lib.hid (head_some h hq h0 (by omega))
  rw [popS_some hn]
  obtain ⟨g, m, c, rfl, hm, hc⟩ := h.arr2 (by omega)
  have hqn := h.qn
  obtain ⟨c0, c1, c2, c3, c4, z0, z1, z2, z3, z4⟩ := cells5 h.blk
  obtain ⟨k0, k1, k2, k3, f0, f1, f2, f3⟩ := h.cells hi
  obtain ⟨q0, q1, y0, y1⟩ := h.qcells hq
  have hj : ((j : Int) == -1) = false := by simp
  rw [hm] at hi hmost
  rw [h0] at q0
  rw [hn] at k1
  have e1 : (i : Int) < m := by omega
  have e2 : (q : Int) < Qn := by omega
  have H0 := Lib.hid h
  have HM := Lib.hid hm
  have HI : Hid (i < S.m) := Lib.hid (by omega)
  clear h hm h0 hn
  go_enter Tryz.func50, Tryz.ntmps50
  go_wp2_with fail
  refine (HH.out).mono ?_
  rintro e w1 ⟨rfl, nq1, rfl⟩
  have H1 := Lib.hid ((H0.out.old ((Upd.refl _ _).drewN nq1)).setHd q (j : Int))
  have U1 : Hid (Upd (POf pb qb (.slice (some ⟨g, 0, none⟩) m c)) w ((w.drewN nq1).setCell ⟨qb, q * 2, none⟩ (.int .i32 (j : Int)))) := Lib.hid (((Upd.refl _ _).drewN nq1).setCell (a := ⟨qb, _, none⟩) (fun _ => .inr (.inl rfl)) _)
  go_upto_region 8 with fail
  clear c0 c1 c2 c3 c4 z0 z1 z2 z3 z4 k0 k1 k2 k3 f0 f1 f2 f3 q0 q1 y0 y1 HH
  generalize (w.drewN nq1).setCell ⟨qb, q * 2, none⟩ (.int .i32 (j : Int)) = w2 at *
  obtain ⟨c0, c1, c2, c3, c4, z0, z1, z2, z3, z4⟩ := cells5 H1.out.blk
  obtain ⟨k0, k1, k2, k3, f0, f1, f2, f3⟩ := H1.out.cells HI.out
  go_wp2_with fail
  refine wp_region_tail 10 (by kernel_rfl) (by kernel_rfl) ?_
  simp only [List.take_succ_cons, List.take_zero, List.drop_succ_cons, List.drop_zero]
  repeat (go_big_quiet_step (fail))
  refine wpQuiet_nil ?_
  rintro _ ⟨nq, rfl⟩
  go_wp2_with fail
  refine Stage.out ?_
  have HS := Lib.hid (((H1.out.old ((Upd.refl _ _).drewN nq)).setNx i (-1)).setQd i false)
  have HU := Lib.hid (((U1.out.drewN nq).setCell (a := ⟨g, i * 4 + 1, none⟩) (fun _ => .inr (.inr rfl)) (.int .i32 (-1))).setCell (a := ⟨g, i * 4 + 3, none⟩) (fun _ => .inr (.inr rfl)) (.bool false))
  go_wp2_with fail
  go_ret2
  exact ⟨rfl, HS.out, HU.out⟩
theorem give_any (h : P w pb cv qb most Qn S) {i : Nat} (hi : i < S.m) (ht : S.tk i = true) (hd : S.qd i = false) (hn : 0 < S.n) (hn2 : S.n ≤ 1000000) :
    Calls Tryz.prog 51 #[.pointer (some ⟨pb, 0, none⟩), .int .i64 i] w fun e w' => e = .returned (.tuple #[Value.string (S.x i), .int .i64 0]) ∧ P w' pb cv qb most Qn (giveS S i ⟨#[]⟩) ∧ Upd (POf pb qb cv) w w' := by
  have hmost := h.mst
  have HT := Lib.hid (taken_any h hi)
  rw [ht] at HT
  obtain ⟨g, m, c, rfl, hm, hc⟩ := h.arr2 (by omega)
  have hqn := h.qn
  obtain ⟨c0, c1, c2, c3, c4, z0, z1, z2, z3, z4⟩ := cells5 h.blk
  obtain ⟨k0, k1, k2, k3, f0, f1, f2, f3⟩ := h.cells hi
  obtain ⟨n, hnn⟩ : ∃ n, S.n = n := ⟨_, rfl⟩
  obtain ⟨d, hd1⟩ : ∃ d, n - 1 = d := ⟨_, rfl⟩
  rw [giveS_eq (show S.n - 1 = d by omega)]
  rw [hm] at hi hmost
  rw [hd] at k3
  rw [hnn] at c4 hn hn2
  have e1 : (i : Int) < m := by omega
  have e2 : (n : Int) - 1 = (d : Int) := by omega
  have H0 := Lib.hid h
  have HM := Lib.hid hm
  have HNN := Lib.hid hnn
  clear h hm ht hd hnn hd1
  go_enter Tryz.func51, Tryz.ntmps51
  go_wp2_with fail
  refine (HT.out).mono ?_
  rintro e w' ⟨rfl, rfl⟩
  go_wp2_with fail
  refine wp_region_tail 11 (by kernel_rfl) (by kernel_rfl) ?_
  simp only [List.take_succ_cons, List.take_zero, List.drop_succ_cons, List.drop_zero]
  iterate 11 (go_big_quiet_step (fail))
  refine wpQuiet_nil ?_
  rintro _ ⟨nq, rfl⟩
  go_wp2_with fail
  refine Stage.out ?_
  have H1 : Hid (P (((((w.drewN nq).setCell ⟨g, i * 4, none⟩ (Value.string ⟨#[]⟩)).setCell ⟨g, i * 4 + 1, none⟩ (.int .i32 S.free)).setCell ⟨g, i * 4 + 2, none⟩ (.bool false)).setCell ⟨g, i * 4 + 3, none⟩ (.bool false)) pb (.slice (some ⟨g, 0, none⟩) m c) qb most Qn { S with x := upd S.x i ⟨#[]⟩, nx := upd S.nx i S.free, tk := upd S.tk i false, qd := upd S.qd i false }) := Lib.hid ((H0.out.old ((Upd.refl _ _).drewN nq)).setAll i ⟨#[]⟩ S.free false false)
  have U1 : Hid (Upd (POf pb qb (.slice (some ⟨g, 0, none⟩) m c)) w (((((w.drewN nq).setCell ⟨g, i * 4, none⟩ (Value.string ⟨#[]⟩)).setCell ⟨g, i * 4 + 1, none⟩ (.int .i32 S.free)).setCell ⟨g, i * 4 + 2, none⟩ (.bool false)).setCell ⟨g, i * 4 + 3, none⟩ (.bool false))) := Lib.hid ((((((Upd.refl _ _).drewN nq).setCell (a := ⟨g, _, none⟩) (fun _ => .inr (.inr rfl)) _).setCell (a := ⟨g, _, none⟩) (fun _ => .inr (.inr rfl)) _).setCell (a := ⟨g, _, none⟩) (fun _ => .inr (.inr rfl)) _).setCell (a := ⟨g, _, none⟩) (fun _ => .inr (.inr rfl)) _)
  clear c0 c1 c2 c3 c4 z0 z1 z2 z3 z4 k0 k1 k2 k3 f0 f1 f2 f3
  generalize ((((w.drewN nq).setCell ⟨g, i * 4, none⟩ (Value.string ⟨#[]⟩)).setCell ⟨g, i * 4 + 1, none⟩ (.int .i32 S.free)).setCell ⟨g, i * 4 + 2, none⟩ (.bool false)).setCell ⟨g, i * 4 + 3, none⟩ (.bool false) = w2 at *
  obtain ⟨c0, c1, c2, c3, c4, z0, z1, z2, z3, z4⟩ := cells5 H1.out.blk
  simp only [HNN.out] at c4
  have HS := Lib.hid ((H1.out.setFree i).setN d)
  have HU := Lib.hid ((U1.out.setCell (a := ⟨pb, 3, none⟩) (fun _ => .inl rfl) (.int .i32 i)).setCell (a := ⟨pb, 4, none⟩) (fun _ => .inl rfl) (.int .i64 d))
  go_wp2_with fail
  go_ret2
  exact ⟨rfl, HS.out, HU.out⟩
end
end Go.Proofs.YtjbaibnmbeabnaaGreatDoor.PoolS
namespace Go.Proofs.YtjbaibnmbeabnaaGreatDoor.PoolS
open Go.RowKit Go.Proofs BigFrame Pool
set_option maxHeartbeats 4000000
set_option maxRecDepth 1000000
abbrev Z : Value := .agg #[Value.string ⟨#[]⟩, .int .i32 0, .bool false, .bool false]
theorem infoC : (Tryz.prog.info? TC).map (fun i => (i.zero, i.size, i.bytes)) = some (some Z, 4, 24) := by kernel_rfl
theorem form4 {w : World} {v : Value} {n : Nat} {xs : List Value} (h : w.ownsRow 0 TC 4 v (n + 1) xs) : ∃ g c, v = .slice (some ⟨g, 0, none⟩) (n + 1) c := by
  rcases h.2 with ⟨_, h0⟩ | ⟨g, c, cur, rfl, _⟩
  · omega
  · exact ⟨g, c, rfl⟩
theorem new_at (w : World) (c : Array Value) (t : TypeId) : ∀ b, some (⟨w.heap.size, 0, none⟩ : Addr) = some b → ∀ (j : Nat) (u : Value), c.toList[j]? = some u → (w.alloc (.cells c t)).cell? (b.add j) = some u := fun b hb j u hu => by
  obtain rfl := Option.some.inj hb
  rw [add_at, Nat.zero_add]
  exact new_cells w c t j u hu
section
variable {w : World} {pb : Nat} {cv : Value} {qb most Qn : Nat} {S : PS ByteArray}
theorem take_old (h : P w pb cv qb most Qn S) (hn : S.n < most) {b : Nat} (hf : S.free = (b : Int)) (hb : b < S.m) (x : ByteArray) :
    Calls Tryz.prog 70 #[.pointer (some ⟨pb, 0, none⟩), Value.string x] w fun e w' => e = .returned (.tuple #[.int .i64 b, .bool true]) ∧ P w' pb cv qb most Qn (takeS S b S.m (S.nx b) x) ∧ Upd (POf pb qb cv) w w' := by
  have hmost := h.mst
  obtain ⟨g, m, c, rfl, hm, hc⟩ := h.arr2 (by omega)
  obtain ⟨c0, c1, c2, c3, c4, z0, z1, z2, z3, z4⟩ := cells5 h.blk
  obtain ⟨k0, k1, k2, k3, f0, f1, f2, f3⟩ := h.cells hb
  obtain ⟨n, hnn⟩ : ∃ n, S.n = n := ⟨_, rfl⟩
  obtain ⟨y, hy⟩ : ∃ y, S.nx b = y := ⟨_, rfl⟩
  have HE : Hid (takeS S b S.m (S.nx b) x = { S with x := upd S.x b x, nx := upd S.nx b (-1), tk := upd S.tk b true, qd := upd S.qd b false, free := y, n := n + 1 }) := Lib.hid (by unfold takeS; rw [hnn, hy])
  have d1 : decide (most ≤ S.n) = false := decide_eq_false (by omega)
  rw [hnn] at c4 hn d1
  rw [hf] at c3
  rw [hy] at k1
  have hj : ((b : Int) == -1) = false := by simp
  have HB := Lib.hid hb
  rw [hm] at hb hmost
  have e1 : (b : Int) < m := by omega
  have e2 : IntKind.i64.wrap ((n : Int) + 1) = ((n + 1 : Nat) : Int) := by rw [IntKind.wrap_i64]; omega
  have H0 := Lib.hid h
  have HNN := Lib.hid hnn
  clear h hm hnn hf hy
  go_enter Tryz.func70, Tryz.ntmps70
  go_wp2_with fail
  go_quiet (fail)
  go_upto_region 8 with fail
  have H1 : Hid (P ((w.drewN nq).setCell ⟨pb, 3, none⟩ (.int .i32 y)) pb (.slice (some ⟨g, 0, none⟩) m c) qb most Qn { S with free := y }) := Lib.hid ((H0.out.old ((Upd.refl _ _).drewN nq)).setFree y)
  have U1 : Hid (Upd (POf pb qb (.slice (some ⟨g, 0, none⟩) m c)) w ((w.drewN nq).setCell ⟨pb, 3, none⟩ (.int .i32 y))) := Lib.hid (((Upd.refl _ _).drewN nq).setCell (a := ⟨pb, 3, none⟩) (fun _ => .inl rfl) _)
  clear c0 c1 c2 c3 c4 z0 z1 z2 z3 z4 k0 k1 k2 k3 f0 f1 f2 f3
  generalize (w.drewN nq).setCell ⟨pb, 3, none⟩ (.int .i32 y) = w1 at *
  obtain ⟨c0, c1, c2, c3, c4, z0, z1, z2, z3, z4⟩ := cells5 H1.out.blk
  obtain ⟨k0, k1, k2, k3, f0, f1, f2, f3⟩ := H1.out.cells HB.out
  go_upto_region 9 with fail
  have H2 : Hid (P ((((w1.setCell ⟨g, b * 4, none⟩ (Value.string x)).setCell ⟨g, b * 4 + 1, none⟩ (.int .i32 (-1))).setCell ⟨g, b * 4 + 2, none⟩ (.bool true)).setCell ⟨g, b * 4 + 3, none⟩ (.bool false)) pb (.slice (some ⟨g, 0, none⟩) m c) qb most Qn { S with x := upd S.x b x, nx := upd S.nx b (-1), tk := upd S.tk b true, qd := upd S.qd b false, free := y }) := Lib.hid (H1.out.setAll b x (-1) true false)
  have U2 : Hid (Upd (POf pb qb (.slice (some ⟨g, 0, none⟩) m c)) w ((((w1.setCell ⟨g, b * 4, none⟩ (Value.string x)).setCell ⟨g, b * 4 + 1, none⟩ (.int .i32 (-1))).setCell ⟨g, b * 4 + 2, none⟩ (.bool true)).setCell ⟨g, b * 4 + 3, none⟩ (.bool false))) := Lib.hid (upd4 U1.out (fun _ => .inr (.inr rfl)) b _ _ _ _)
  clear c0 c1 c2 c3 c4 z0 z1 z2 z3 z4 k0 k1 k2 k3 f0 f1 f2 f3
  generalize (((w1.setCell ⟨g, b * 4, none⟩ (Value.string x)).setCell ⟨g, b * 4 + 1, none⟩ (.int .i32 (-1))).setCell ⟨g, b * 4 + 2, none⟩ (.bool true)).setCell ⟨g, b * 4 + 3, none⟩ (.bool false) = w2 at *
  obtain ⟨c0, c1, c2, c3, c4, z0, z1, z2, z3, z4⟩ := cells5 H2.out.blk
  simp only [HNN.out] at c4
  have HS := Lib.hid (H2.out.setN (n + 1))
  have HU := Lib.hid (U2.out.setCell (a := ⟨pb, 4, none⟩) (fun _ => .inl rfl) (.int .i64 ((n + 1 : Nat) : Int)))
  go_wp2_with fail
  go_ret2
  exact ⟨rfl, by rw [HE.out]; exact HS.out, HU.out⟩
theorem take_new (h : P w pb cv qb most Qn S) (hn : S.n < most) (hf : S.free = -1) (hb : S.m < most) (x : ByteArray) :
    Calls Tryz.prog 70 #[.pointer (some ⟨pb, 0, none⟩), Value.string x] w fun e w' => e = .returned (.tuple #[.int .i64 S.m, .bool true]) ∧ ∃ cv', P w' pb cv' qb most Qn (takeS S S.m (S.m + 1) S.free x) ∧ OwnOrNew w cv cv' ∧ Upd (POf pb qb cv) w w' := by
  have hmost := h.mst
  obtain ⟨i0, hi, hz0, hz1, hz2⟩ := info_parts infoC
  obtain ⟨ad, m, c, rfl, hm⟩ := h.form2
  obtain ⟨c0, c1, c2, c3, c4, z0, z1, z2, z3, z4⟩ := cells5 h.blk
  obtain ⟨n, hnn⟩ : ∃ n, S.n = n := ⟨_, rfl⟩
  have HE : Hid (takeS S S.m (S.m + 1) S.free x = { S with m := S.m + 1, x := upd (upd S.x S.m ⟨#[]⟩) S.m x, nx := upd (upd S.nx S.m 0) S.m (-1), tk := upd (upd S.tk S.m false) S.m true, qd := upd (upd S.qd S.m false) S.m false, n := n + 1 }) := Lib.hid (by unfold takeS; simp only [upd_upd]; rw [hnn])
  have d1 : decide (most ≤ S.n) = false := decide_eq_false (by omega)
  rw [hnn] at c4 hn d1
  rw [hf] at c3
  have HB := Lib.hid hb
  have HF := Lib.hid hf
  have hROW := h.row
  rw [hm] at hb hmost hROW
  have e2 : IntKind.i64.wrap ((n : Int) + 1) = ((n + 1 : Nat) : Int) := by rw [IntKind.wrap_i64]; omega
  have hU1 : Upd Nowhere w w := Upd.refl _ _
  have H0 := Lib.hid h
  have HM := Lib.hid hm
  have HNN := Lib.hid hnn
  have HROW := Lib.hid hROW
  clear h hm hnn hf hROW hU1
  go_enter Tryz.func70, Tryz.ntmps70
  go_wp2_with fail
  go_quiet (fail)
  go_upto_region 3 with fail
  have H1 := Lib.hid (H0.out.old ((Upd.refl _ _).drewN nq))
  have U1 := Lib.hid ((Upd.refl (POf pb qb (.slice ad m c)) w).drewN nq)
  have HROW1 := Lib.hid (ownsRow_upd HROW.out ((Upd.refl Nowhere w).drewN nq) (fun _ _ h => h))
  have hsz : (w.drewN nq).heap.size = w.heap.size := rfl
  have HSZ := Lib.hid hsz
  clear c0 c1 c2 c3 c4 z0 z1 z2 z3 z4 hsz HROW
  generalize w.drewN nq = w1 at *
  obtain ⟨c0, c1, c2, c3, c4, z0, z1, z2, z3, z4⟩ := cells5 H1.out.blk
  simp only [HF.out] at c3
  go_upto_region 8 with (at_builtin; go_loud (refine wpList_app rfl _ _ 118 rfl 0 TC i0 Z 4 24 Tryz.underlying118 hi hz0 hz1 hz2 rfl (by decide) (by decide) (.slice ad m c) m _ rfl (ownsRow_upd HROW1.out ((Upd.refl Nowhere w1).alloc _) (fun _ _ h => h)) (some ⟨w1.heap.size, 0, none⟩) 1 1 [Value.string ⟨#[]⟩, .int .i32 0, .bool false, .bool false] rfl (fun h => by cases h) rfl (new_at w1 #[Value.string ⟨#[]⟩, .int .i32 0, .bool false, .bool false] TC) (by simp [Value.oneCell']) (by omega) (Nat.zero_le _) ?_; intro v6 w6 hown6 hu6 hn6; have H6 := Lib.hid (H1.out.grow ⟨#[]⟩ HB.out (by rw [HM.out]; exact hown6) hu6 hn6 ((Upd.refl Nowhere w1).alloc _)); obtain ⟨g6, c6, rfl⟩ := form4 hown6; obtain ⟨b0, b1, b2, b3, b4, y0, y1, y2, y3, y4⟩ := cells5 H6.out.blk; clear hown6 hu6 hn6 c0 c1 c2 c3 c4 z0 z1 z2 z3 z4))
  have hpin := H6.out.pin
  have HOWN : Hid (OwnOrNew w (.slice ad m c) (.slice (some ⟨g6, 0, none⟩) (m + 1) c6)) := Lib.hid (fun k hk => (H6.out.own k hk).imp id (fun h => by rw [← HSZ.out]; exact h))
  have hu7 : Upd (POf pb qb (.slice ad m c)) w (w6.setCell ⟨pb, 0, none⟩ (.slice (some ⟨g6, 0, none⟩) (m + 1) c6)) := (U1.out.trans H6.out.upd (fun _ _ h => h)).setCell (a := ⟨pb, 0, none⟩) (fun _ => .inl rfl) _
  have H7 := Lib.hid hpin
  have U7 := Lib.hid hu7
  clear hpin hu7 b0 b1 b2 b3 b4 y0 y1 y2 y3 y4 H6
  generalize w6.setCell ⟨pb, 0, none⟩ (.slice (some ⟨g6, 0, none⟩) (m + 1) c6) = w7 at *
  obtain ⟨c0, c1, c2, c3, c4, z0, z1, z2, z3, z4⟩ := cells5 H7.out.blk
  obtain ⟨k0, k1, k2, k3, f0, f1, f2, f3⟩ := H7.out.cells (i := m) (by rw [← HM.out]; exact Nat.lt_succ_self _)
  go_upto_region 9 with fail
  have H8 : Hid (P ((((w7.setCell ⟨g6, m * 4, none⟩ (Value.string x)).setCell ⟨g6, m * 4 + 1, none⟩ (.int .i32 (-1))).setCell ⟨g6, m * 4 + 2, none⟩ (.bool true)).setCell ⟨g6, m * 4 + 3, none⟩ (.bool false)) pb (.slice (some ⟨g6, 0, none⟩) (m + 1) c6) qb most Qn { S with m := S.m + 1, x := upd (upd S.x S.m ⟨#[]⟩) m x, nx := upd (upd S.nx S.m 0) m (-1), tk := upd (upd S.tk S.m false) m true, qd := upd (upd S.qd S.m false) m false }) := Lib.hid (H7.out.setAll m x (-1) true false)
  have U8 : Hid (Upd (POf pb qb (.slice ad m c)) w ((((w7.setCell ⟨g6, m * 4, none⟩ (Value.string x)).setCell ⟨g6, m * 4 + 1, none⟩ (.int .i32 (-1))).setCell ⟨g6, m * 4 + 2, none⟩ (.bool true)).setCell ⟨g6, m * 4 + 3, none⟩ (.bool false))) := by
    have hg : g6 < w.heap.size → POf pb qb (.slice ad m c) g6 := fun hlt => by
      rcases HOWN.out g6 rfl with h | h
      · exact .inr (.inr h)
      · omega
    exact Lib.hid (upd4 U7.out hg m _ _ _ _)
  clear c0 c1 c2 c3 c4 z0 z1 z2 z3 z4 k0 k1 k2 k3 f0 f1 f2 f3
  generalize (((w7.setCell ⟨g6, m * 4, none⟩ (Value.string x)).setCell ⟨g6, m * 4 + 1, none⟩ (.int .i32 (-1))).setCell ⟨g6, m * 4 + 2, none⟩ (.bool true)).setCell ⟨g6, m * 4 + 3, none⟩ (.bool false) = w8 at *
  obtain ⟨c0, c1, c2, c3, c4, z0, z1, z2, z3, z4⟩ := cells5 H8.out.blk
  simp only [HNN.out] at c4
  have HS := Lib.hid (H8.out.setN (n + 1))
  have HU := Lib.hid (U8.out.setCell (a := ⟨pb, 4, none⟩) (fun _ => .inl rfl) (.int .i64 ((n + 1 : Nat) : Int)))
  go_wp2_with fail
  go_ret2
  exact ⟨by rw [HM.out]; rfl, _, by rw [HE.out, HM.out]; have := HS.out; rw [HM.out] at this; exact this, HOWN.out, HU.out⟩
end
end Go.Proofs.YtjbaibnmbeabnaaGreatDoor.PoolS
namespace Go.Proofs.YtjbaibnmbeabnaaGreatDoor.PoolS
open Go.RowKit Go.Proofs BigFrame Pool
set_option maxHeartbeats 4000000
set_option maxRecDepth 1000000
theorem infoQ : (Tryz.prog.info? TQ).map (fun i => (i.zero, i.size, i.bytes)) = some (some (.agg #[.int .i32 0, .int .i32 0]), 2, 8) := by kernel_rfl
theorem made_q (n : Nat) : madeCells #[.int .i32 0, .int .i32 0] n = (ran (fun _ => .int .i32 0) n).toArray := by
  unfold madeCells ran
  apply Array.ext'
  simp only [Array.toList_map, Array.toList_range]
  refine List.map_congr_left fun i _ => ?_
  have h := Nat.mod_lt i (show 0 < 2 by omega)
  show (#[Value.int .i32 0, Value.int .i32 0] : Array Value)[i % 2]! = _
  rcases (by omega : i % 2 = 0 ∨ i % 2 = 1) with e | e <;> rw [e] <;> rfl
theorem make_q (W : Nat) (h : W ≤ 262144) (u : World) : (Instr.makeSlice 84 (.int .i64 W) (.int .i64 W)).run Tryz.prog u = .ok (.slice (some ⟨u.heap.size, 0, none⟩) W W) (u.alloc (.cells (ran (fun _ => .int .i32 0) (W * 2)).toArray TQ)) := by
  obtain ⟨i0, hi, hz0, hz1, hz2⟩ := info_parts infoQ
  have h := Go.run_make (P := Tryz.prog) u 84 TQ i0 (.agg #[.int .i32 0, .int .i32 0]) Tryz.underlying84 hi hz0 .i64 .i64 W W (by omega) (by omega) (by rw [hz2]; omega) (by omega)
  rw [h, hz1, ← made_q]
  simp [Value.cells]
/-- A pool whose first k queues are laid. -/
def part (k : Nat) : PS ByteArray := { newS ⟨#[]⟩ with hd := fun q => if q < k then -1 else 0, tl := fun q => if q < k then -1 else 0 }
theorem part_step (k : Nat) : ({ part k with hd := upd (part k).hd k (-1), tl := upd (part k).tl k (-1) } : PS ByteArray) = part (k + 1) := by
  have e : upd (fun q => if q < k then (-1 : Int) else 0) k (-1) = fun q => if q < k + 1 then -1 else 0 := by
    funext q
    unfold upd
    by_cases h1 : q = k
    · subst h1; simp
    · rw [if_neg h1]
      show (if q < k then (-1 : Int) else 0) = _
      by_cases h2 : q < k
      · rw [if_pos h2, if_pos (by omega)]
      · rw [if_neg h2, if_neg (by omega)]
  unfold part
  simp only [e]
theorem part_done {w : World} {pb qb most Qn : Nat} (h : P w pb (.slice none 0 0) qb most Qn (part Qn)) : P w pb (.slice none 0 0) qb most Qn (newS ⟨#[]⟩) := by
  refine ⟨h.blk, h.row, ?_, h.off, h.mst, h.qn⟩
  have e : ran (qf (part Qn)) (Qn * 2) = ran (qf (newS (⟨#[]⟩ : ByteArray))) (Qn * 2) := ran_congr fun i hi => by
    unfold qf part newS
    simp only [show i / 2 < Qn by omega, if_true]
  rw [← e]; exact h.que
theorem new_ok (most Qn : Nat) (w : World) (h1 : 1 ≤ most) (h2 : most ≤ 4096) (h3 : 1 ≤ Qn) (h4 : Qn ≤ 262144) :
    Calls Tryz.prog 42 #[.int .i64 most, .int .i64 Qn] w fun e w' => e = .returned (.tuple #[.pointer (some ⟨w.heap.size + 1, 0, none⟩), .int .i64 0]) ∧ P w' (w.heap.size + 1) (.slice none 0 0) w.heap.size most Qn (newS ⟨#[]⟩) ∧ Upd Nowhere w w' := by
  have d1 : decide ((most : Int) < 1) = false := decide_eq_false (by omega)
  have d2 : decide ((most : Int) > 4096) = false := decide_eq_false (by omega)
  have d3 : decide ((Qn : Int) < 0) = false := decide_eq_false (by omega)
  have d4 : decide ((Qn : Int) > 262144) = false := decide_eq_false (by omega)
  have d5 : decide (4096 < most) = false := decide_eq_false (by omega)
  have d6 : decide (262144 < Qn) = false := decide_eq_false (by omega)
  have d7 : decide (most < 1) = false := decide_eq_false (by omega)
  have hmk := make_q Qn h4
  have HP0 : Hid (P ((w.alloc (.cells (ran (fun _ => .int .i32 0) (Qn * 2)).toArray TQ)).alloc (.cells #[.slice none 0 0, .slice (some ⟨w.heap.size, 0, none⟩) Qn Qn, .int .i64 most, .int .i32 (-1), .int .i64 0] TP)) (w.heap.size + 1) (.slice none 0 0) w.heap.size most Qn (part 0)) := Lib.hid (by
    refine ⟨Blk.new2 _ _ _ _, ownsRow_nil _ _ _ _, ?_, ⟨by simp [Value.ownBlock], by simp [Value.ownBlock], by omega⟩, ⟨Nat.zero_le _, h2⟩, ⟨h3, h4⟩⟩
    have e : ran (qf (part 0)) (Qn * 2) = ran (fun _ => .int .i32 0) (Qn * 2) := ran_congr fun i hi => by unfold qf part; simp
    rw [e]
    exact (Blk.new w _ TQ).alloc _)
  go_enter Tryz.func42, Tryz.ntmps42
  go_wp2_with fail
  go_loopw [7, 32] (fun _ sv wr => ∃ k : Nat, sv = .int .i64 k ∧ k ≤ Qn ∧ P wr (w.heap.size + 1) (.slice none 0 0) w.heap.size most Qn (part k) ∧ Upd Nowhere w wr) (fun _ sv _ => Qn - (intOf sv).toNat)
  case atStart => exact ⟨0, rfl, Nat.zero_le _, HP0.out, ((Upd.refl _ _).alloc _).alloc _⟩
  case round =>
    obtain ⟨k, rfl, hk, hP, hu⟩ := hrel
    obtain ⟨wB, rfl⟩ : ∃ x, x = wr := ⟨_, rfl⟩
    clear HP0 hmk
    have HP := Lib.hid hP
    have HU := Lib.hid hu
    obtain ⟨c0, c1, c2, c3, c4, z0, z1, z2, z3, z4⟩ := cells5 hP.blk
    by_cases hlt : k < Qn
    · obtain ⟨q0, q1, y0, y1⟩ := hP.qcells hlt
      have e1 : decide ((k : Int) < Qn) = true := decide_eq_true (by omega)
      have hI : (k : Int) < Qn := by omega
      have e2 : IntKind.i64.wrap ((k : Int) + 1) = ((k + 1 : Nat) : Int) := by rw [IntKind.wrap_i64]; omega
      have HS := Lib.hid ((hP.setHd k (-1)).setTl k (-1))
      have hUS : Upd Nowhere w ((wB.setCell ⟨w.heap.size, k * 2, none⟩ (.int .i32 (-1))).setCell ⟨w.heap.size, k * 2 + 1, none⟩ (.int .i32 (-1))) := (hu.setNew (a := ⟨w.heap.size, k * 2, none⟩) (Nat.le_refl _) _).setNew (a := ⟨w.heap.size, k * 2 + 1, none⟩) (Nat.le_refl _) _
      have HUS := Lib.hid hUS
      clear hP hu hUS
      go_wp2_with fail
      go_roundw
      case rel => exact ⟨k + 1, rfl, by omega, by rw [← part_step]; exact HS.out, HUS.out⟩
      case measure => simp [intOf]; omega
    · obtain rfl : k = Qn := by omega
      have e1 : decide ((k : Int) < k) = false := decide_eq_false (by omega)
      clear hP hu
      go_wp2_with fail
      go_ret2
      exact ⟨rfl, part_done HP.out, HU.out⟩
end Go.Proofs.YtjbaibnmbeabnaaGreatDoor.PoolS
namespace Go.Proofs.YtjbaibnmbeabnaaGreatDoor.PoolS
open Go.RowKit Go.Proofs BigFrame Pool
set_option maxHeartbeats 4000000
abbrev HP (w : World) (pb : Nat) (cv : Value) (qb most Qn n : Nat) (X : Nat → List ByteArray) : Prop := HasP (Value.string) TP TC TQ w pb cv qb most Qn n X
abbrev HH (w : World) (pb : Nat) (cv : Value) (qb most Qn n : Nat) (X : Nat → List ByteArray) (h : Nat) (x : ByteArray) : Prop := HeldP (Value.string) TP TC TQ w pb cv qb most Qn n X h x
/-- A handle that is taken, with its thing. -/
def At (w : World) (pb : Nat) (cv : Value) (qb most Qn h : Nat) (x : ByteArray) : Prop := ∃ S : PS ByteArray, P w pb cv qb most Qn S ∧ h < S.m ∧ S.tk h = true ∧ S.x h = x
section
variable {w w' : World} {pb : Nat} {cv : Value} {qb most Qn n : Nat} {X : Nat → List ByteArray}
theorem At.old {h : Nat} {x : ByteArray} (a : At w pb cv qb most Qn h x) (hu : Upd Nowhere w w') : At w' pb cv qb most Qn h x := by
  obtain ⟨S, h1, h2⟩ := a; exact ⟨S, h1.old hu, h2⟩
theorem t_new (most Qn : Nat) (w : World) (h1 : 1 ≤ most) (h2 : most ≤ 4096) (h3 : 1 ≤ Qn) (h4 : Qn ≤ 262144) :
    Calls Tryz.prog 42 #[.int .i64 most, .int .i64 Qn] w fun e w' => e = .returned (.tuple #[.pointer (some ⟨w.heap.size + 1, 0, none⟩), .int .i64 0]) ∧ HP w' (w.heap.size + 1) (.slice none 0 0) w.heap.size most Qn 0 (fun _ => []) ∧ Upd Nowhere w w' := by
  refine (new_ok most Qn w h1 h2 h3 h4).mono ?_
  rintro e w' ⟨rfl, hp, hu⟩
  exact ⟨rfl, ⟨_, [], fun _ => [], hp, rfl, newPl _ _, fun _ _ => rfl⟩, hu⟩
theorem t_len (h : HP w pb cv qb most Qn n X) : Calls Tryz.prog 53 #[.pointer (some ⟨pb, 0, none⟩)] w fun e w' => e = .returned (.int .i64 n) ∧ w = w' := by
  obtain ⟨S, F, Q, hp, rfl, _⟩ := h
  exact len_any hp
theorem t_take (h : HP w pb cv qb most Qn n X) (hn : n < most) (x : ByteArray) :
    Calls Tryz.prog 70 #[.pointer (some ⟨pb, 0, none⟩), Value.string x] w fun e w' => ∃ i : Nat, e = .returned (.tuple #[.int .i64 i, .bool true]) ∧ ∃ cv', HH w' pb cv' qb most Qn (n + 1) X i x ∧ OwnOrNew w cv cv' ∧ Upd (POf pb qb cv) w w' := by
  obtain ⟨S, F, Q, hp, rfl, hl, hx⟩ := h
  cases F with
  | nil =>
    have hc := hl.cnt
    simp at hc
    refine (take_new hp hn hl.fch (by omega) x).mono ?_
    rintro e w' ⟨rfl, cv', h1, h2, h3⟩
    exact ⟨_, rfl, cv', held_new hl hx h1, h2, h3⟩
  | cons b F =>
    refine (take_old hp hn hl.fch.1 (hl.fre b (List.mem_cons_self ..)).1 x).mono ?_
    rintro e w' ⟨rfl, h1, h3⟩
    exact ⟨_, rfl, cv, held_old hl hx h1, fun k hk => .inl hk, h3⟩
theorem t_app {i : Nat} {x : ByteArray} (h : HH w pb cv qb most Qn n X i x) {q : Nat} (hq : q < Qn) :
    Calls Tryz.prog 71 #[.pointer (some ⟨pb, 0, none⟩), .int .i64 q, .int .i64 i] w fun e w' => e = .returned (.int .i64 0) ∧ HP w' pb cv qb most Qn n (upd X q (X q ++ [x])) ∧ Upd (POf pb qb cv) w w' := by
  obtain ⟨S, F, Q, hp, rfl, hl, hi, hx⟩ := h
  obtain ⟨a1, a2, a3⟩ := hl.hel i rfl
  have hc := hl.qch q hq
  cases hQ : Q q with
  | nil =>
    rw [hQ] at hc
    refine (append_none hp hq a1 a2 a3 hc).mono ?_
    rintro e w' ⟨rfl, h1, h2⟩
    exact ⟨rfl, has_app0 hl hi hx hq hQ h1, h2⟩
  | cons b l =>
    rw [hQ] at hc
    have h0 : Q q ≠ [] := by rw [hQ]; simp
    have ht := hl.qtl q hq h0
    have hm := (hl.qtk q hq _ (List.getLast_mem h0)).1
    refine (append_some hp hq a1 a2 a3 hc.1 ht hm).mono ?_
    rintro e w' ⟨rfl, h1, h2⟩
    exact ⟨rfl, has_app1 hl hi hx hq h0 rfl h1, h2⟩
theorem t_pop (h : HP w pb cv qb most Qn n X) {q : Nat} (hq : q < Qn) {x : ByteArray} {l : List ByteArray} (hX : X q = x :: l) :
    Calls Tryz.prog 50 #[.pointer (some ⟨pb, 0, none⟩), .int .i64 q] w fun e w' => ∃ i : Nat, e = .returned (.tuple #[.int .i64 i, .bool true]) ∧ HH w' pb cv qb most Qn n (upd X q l) i x ∧ Upd (POf pb qb cv) w w' := by
  obtain ⟨S, F, Q, hp, rfl, hl, hx⟩ := h
  have hc := hl.qch q hq
  have hxq := hx q hq
  cases hQ : Q q with
  | nil => rw [hQ, hX] at hxq; cases hxq
  | cons i t =>
    rw [hQ] at hc
    rw [hQ, hX, List.map_cons] at hxq
    injection hxq with e1 e2
    have him := (hl.qtk q hq i (by rw [hQ]; exact List.mem_cons_self ..)).1
    have hfin : ∀ e w', e = Ending.returned (.tuple #[.int .i64 i, .bool true]) ∧ P w' pb cv qb most Qn (popS S q i) ∧ Upd (POf pb qb cv) w w' → ∃ i : Nat, e = .returned (.tuple #[.int .i64 i, .bool true]) ∧ HH w' pb cv qb most Qn S.n (upd X q l) i x ∧ Upd (POf pb qb cv) w w' := by
      rintro e w' ⟨rfl, h1, h2⟩
      have := held_pop hl hx hq hQ h1
      rw [e1, e2] at this
      exact ⟨i, rfl, this, h2⟩
    cases t with
    | nil => exact (pop_last hp hq him hc.1 hc.2).mono hfin
    | cons j t => exact (pop_more hp hq him hc.1 hc.2.1).mono hfin
theorem t_give {i : Nat} {x : ByteArray} (h : HH w pb cv qb most Qn n X i x) :
    Calls Tryz.prog 51 #[.pointer (some ⟨pb, 0, none⟩), .int .i64 i] w fun e w' => e = .returned (.tuple #[Value.string x, .int .i64 0]) ∧ HP w' pb cv qb most Qn (n - 1) X ∧ Upd (POf pb qb cv) w w' := by
  obtain ⟨S, F, Q, hp, rfl, hl, rfl, hx⟩ := h
  obtain ⟨a1, a2, a3⟩ := hl.hel i rfl
  have hc := hl.cnt
  have hm := hp.mst
  refine (give_any hp a1 a2 a3 hl.lt (by omega)).mono ?_
  rintro e w' ⟨rfl, h1, h2⟩
  exact ⟨rfl, has_give _ hl hx h1, h2⟩
theorem t_head0 (h : HP w pb cv qb most Qn n X) {q : Nat} (hq : q < Qn) (hX : X q = []) :
    Calls Tryz.prog 52 #[.pointer (some ⟨pb, 0, none⟩), .int .i64 q] w fun e w' => e = .returned (.tuple #[.int .i64 0, .bool false]) ∧ ∃ k, w' = w.drewN k := by
  obtain ⟨S, F, Q, hp, rfl, hl, hx⟩ := h
  have hc := hl.qch q hq
  have hxq := hx q hq
  rw [hX, List.map_eq_nil_iff] at hxq
  rw [hxq] at hc
  exact head_none hp hq hc
theorem t_head (h : HP w pb cv qb most Qn n X) {q : Nat} (hq : q < Qn) {x : ByteArray} {l : List ByteArray} (hX : X q = x :: l) :
    Calls Tryz.prog 52 #[.pointer (some ⟨pb, 0, none⟩), .int .i64 q] w fun e w' => ∃ i : Nat, e = .returned (.tuple #[.int .i64 i, .bool true]) ∧ At w pb cv qb most Qn i x ∧ ∃ k, w' = w.drewN k := by
  obtain ⟨S, F, Q, hp, rfl, hl, hx⟩ := h
  have hc := hl.qch q hq
  have hxq := hx q hq
  have hm := hp.mst
  cases hQ : Q q with
  | nil => rw [hQ, hX] at hxq; cases hxq
  | cons i t =>
    rw [hQ] at hc
    rw [hQ, hX, List.map_cons] at hxq
    injection hxq with e1 e2
    have him := hl.qtk q hq i (by rw [hQ]; exact List.mem_cons_self ..)
    refine (head_some hp hq hc.1 (by omega)).mono ?_
    rintro e w' ⟨rfl, h1⟩
    exact ⟨i, rfl, ⟨S, hp, him.1, him.2.1, e1⟩, h1⟩
theorem t_headx (h : HP w pb cv qb most Qn n X) {q : Nat} (hq : q < Qn) {x : ByteArray} {l : List ByteArray} (hX : X q = x :: l) :
    ∃ i : Nat, At w pb cv qb most Qn i x ∧ ∀ u, Upd Nowhere w u → Calls Tryz.prog 52 #[.pointer (some ⟨pb, 0, none⟩), .int .i64 q] u fun e w' => e = .returned (.tuple #[.int .i64 i, .bool true]) ∧ ∃ k, w' = u.drewN k := by
  obtain ⟨S, F, Q, hp, rfl, hl, hx⟩ := h
  have hc := hl.qch q hq
  have hxq := hx q hq
  have hm := hp.mst
  cases hQ : Q q with
  | nil => rw [hQ, hX] at hxq; cases hxq
  | cons i t =>
    rw [hQ] at hc
    rw [hQ, hX, List.map_cons] at hxq
    injection hxq with e1 e2
    have him := hl.qtk q hq i (by rw [hQ]; exact List.mem_cons_self ..)
    exact ⟨i, ⟨S, hp, him.1, him.2.1, e1⟩, fun u hu => head_some (hp.old hu) hq hc.1 (by omega)⟩
theorem t_get {i : Nat} {x : ByteArray} (h : At w pb cv qb most Qn i x) :
    Calls Tryz.prog 75 #[.pointer (some ⟨pb, 0, none⟩), .int .i64 i] w fun e w' => e = .returned (.tuple #[Value.string x, .bool true]) ∧ ∃ k, w' = w.drewN k := by
  obtain ⟨S, hp, h1, h2, rfl⟩ := h
  exact get_any hp h1 h2
end
end Go.Proofs.YtjbaibnmbeabnaaGreatDoor.PoolS
namespace Go.Proofs.YtjbaibnmbeabnaaGreatDoor.PoolS
open Go.RowKit Go.Proofs BigFrame Pool
set_option maxHeartbeats 1000000
/-- A pool of the blocks own: the queues' things. -/
def Pq (w : World) (pb : Nat) (own : Nat → Prop) (most Qn n : Nat) (X : Nat → List ByteArray) : Prop := ∃ cv qb, HP w pb cv qb most Qn n X ∧ ∀ k, own k ↔ POf pb qb cv k
/-- The same, and one handle that is in none. -/
def Ph (w : World) (pb : Nat) (own : Nat → Prop) (most Qn n : Nat) (X : Nat → List ByteArray) (i : Nat) (x : ByteArray) : Prop := ∃ cv qb, HH w pb cv qb most Qn n X i x ∧ ∀ k, own k ↔ POf pb qb cv k
/-- A handle that is taken. -/
def Pa (w : World) (pb i : Nat) (x : ByteArray) : Prop := ∃ cv qb most Qn, At w pb cv qb most Qn i x
section
variable {w w' : World} {pb most Qn n : Nat} {own : Nat → Prop} {X : Nat → List ByteArray}
theorem Pa.old {i : Nat} {x : ByteArray} (a : Pa w pb i x) (hu : Upd Nowhere w w') : Pa w' pb i x := by
  obtain ⟨cv, qb, most, Qn, h⟩ := a; exact ⟨cv, qb, most, Qn, h.old hu⟩
theorem Pq.lts (h : Pq w pb own most Qn n X) {k : Nat} (hk : own k) : k < w.heap.size := by
  obtain ⟨cv, qb, hp, ho⟩ := h; exact hp.lts ((ho k).1 hk)
theorem Pq.self (h : Pq w pb own most Qn n X) : own pb := by
  obtain ⟨cv, qb, hp, ho⟩ := h; exact (ho pb).2 (.inl rfl)
theorem Pq.kept (h : Pq w pb own most Qn n X) {S : Nat → Prop} (hu : Upd S w w') (hS : ∀ k, own k → ¬ S k) : Pq w' pb own most Qn n X := by
  obtain ⟨cv, qb, hp, ho⟩ := h; exact ⟨cv, qb, hp.kept hu (fun k hk => hS k ((ho k).2 hk)), ho⟩
theorem Ph.kept {i : Nat} {x : ByteArray} (h : Ph w pb own most Qn n X i x) {S : Nat → Prop} (hu : Upd S w w') (hS : ∀ k, own k → ¬ S k) : Ph w' pb own most Qn n X i x := by
  obtain ⟨cv, qb, hp, ho⟩ := h; exact ⟨cv, qb, hp.kept hu (fun k hk => hS k ((ho k).2 hk)), ho⟩
theorem Ph.lts {i : Nat} {x : ByteArray} (h : Ph w pb own most Qn n X i x) {k : Nat} (hk : own k) : k < w.heap.size := by
  obtain ⟨cv, qb, ⟨S, F, Q, hp, _⟩, ho⟩ := h; exact hp.lts ((ho k).1 hk)
theorem Pq.congr {X' : Nat → List ByteArray} (h : Pq w pb own most Qn n X) (hX : ∀ q, q < Qn → X' q = X q) : Pq w pb own most Qn n X' := by
  obtain ⟨cv, qb, hp, ho⟩ := h; exact ⟨cv, qb, hp.congr hX, ho⟩
theorem p_new (most Qn : Nat) (w : World) (h1 : 1 ≤ most) (h2 : most ≤ 4096) (h3 : 1 ≤ Qn) (h4 : Qn ≤ 262144) :
    Calls Tryz.prog 42 #[.int .i64 most, .int .i64 Qn] w fun e w' => e = .returned (.tuple #[.pointer (some ⟨w.heap.size + 1, 0, none⟩), .int .i64 0]) ∧ (∃ own, Pq w' (w.heap.size + 1) own most Qn 0 (fun _ => []) ∧ ∀ k, own k → w.heap.size ≤ k) ∧ Upd Nowhere w w' := by
  refine (t_new most Qn w h1 h2 h3 h4).mono ?_
  rintro e w' ⟨rfl, hp, hu⟩
  refine ⟨rfl, ⟨_, ⟨_, _, hp, fun _ => Iff.rfl⟩, fun k hk => ?_⟩, hu⟩
  rcases hk with rfl | rfl | hk
  · omega
  · exact Nat.le_refl _
  · cases hk
theorem p_len (h : Pq w pb own most Qn n X) : Calls Tryz.prog 53 #[.pointer (some ⟨pb, 0, none⟩)] w fun e w' => e = .returned (.int .i64 n) ∧ w = w' := by
  obtain ⟨cv, qb, hp, ho⟩ := h; exact t_len hp
theorem p_take (h : Pq w pb own most Qn n X) (hn : n < most) (x : ByteArray) :
    Calls Tryz.prog 70 #[.pointer (some ⟨pb, 0, none⟩), Value.string x] w fun e w' => ∃ i : Nat, e = .returned (.tuple #[.int .i64 i, .bool true]) ∧ (∃ own', Ph w' pb own' most Qn (n + 1) X i x ∧ ∀ k, own' k → own k ∨ w.heap.size ≤ k) ∧ Upd own w w' := by
  obtain ⟨cv, qb, hp, ho⟩ := h
  refine (t_take hp hn x).mono ?_
  rintro e w' ⟨i, rfl, cv', h1, h2, h3⟩
  refine ⟨i, rfl, ⟨_, ⟨cv', qb, h1, fun _ => Iff.rfl⟩, fun k hk => ?_⟩, h3.mono fun k _ hk => (ho k).2 hk⟩
  rcases hk with rfl | rfl | hk
  · exact .inl ((ho _).2 (.inl rfl))
  · exact .inl ((ho _).2 (.inr (.inl rfl)))
  · rcases h2 k hk with h | h
    · exact .inl ((ho _).2 (.inr (.inr h)))
    · exact .inr h
theorem p_app {i : Nat} {x : ByteArray} (h : Ph w pb own most Qn n X i x) {q : Nat} (hq : q < Qn) :
    Calls Tryz.prog 71 #[.pointer (some ⟨pb, 0, none⟩), .int .i64 q, .int .i64 i] w fun e w' => e = .returned (.int .i64 0) ∧ Pq w' pb own most Qn n (upd X q (X q ++ [x])) ∧ Upd own w w' := by
  obtain ⟨cv, qb, hp, ho⟩ := h
  refine (t_app hp hq).mono ?_
  rintro e w' ⟨rfl, h1, h2⟩
  exact ⟨rfl, ⟨cv, qb, h1, ho⟩, h2.mono fun k _ hk => (ho k).2 hk⟩
theorem p_pop (h : Pq w pb own most Qn n X) {q : Nat} (hq : q < Qn) {x : ByteArray} {l : List ByteArray} (hX : X q = x :: l) :
    Calls Tryz.prog 50 #[.pointer (some ⟨pb, 0, none⟩), .int .i64 q] w fun e w' => ∃ i : Nat, e = .returned (.tuple #[.int .i64 i, .bool true]) ∧ Ph w' pb own most Qn n (upd X q l) i x ∧ Upd own w w' := by
  obtain ⟨cv, qb, hp, ho⟩ := h
  refine (t_pop hp hq hX).mono ?_
  rintro e w' ⟨i, rfl, h1, h2⟩
  exact ⟨i, rfl, ⟨cv, qb, h1, ho⟩, h2.mono fun k _ hk => (ho k).2 hk⟩
theorem p_give {i : Nat} {x : ByteArray} (h : Ph w pb own most Qn n X i x) :
    Calls Tryz.prog 51 #[.pointer (some ⟨pb, 0, none⟩), .int .i64 i] w fun e w' => e = .returned (.tuple #[Value.string x, .int .i64 0]) ∧ Pq w' pb own most Qn (n - 1) X ∧ Upd own w w' := by
  obtain ⟨cv, qb, hp, ho⟩ := h
  refine (t_give hp).mono ?_
  rintro e w' ⟨rfl, h1, h2⟩
  exact ⟨rfl, ⟨cv, qb, h1, ho⟩, h2.mono fun k _ hk => (ho k).2 hk⟩
theorem p_head0 (h : Pq w pb own most Qn n X) {q : Nat} (hq : q < Qn) (hX : X q = []) :
    Calls Tryz.prog 52 #[.pointer (some ⟨pb, 0, none⟩), .int .i64 q] w fun e w' => e = .returned (.tuple #[.int .i64 0, .bool false]) ∧ ∃ k, w' = w.drewN k := by
  obtain ⟨cv, qb, hp, ho⟩ := h
  exact t_head0 hp hq hX
theorem p_head (h : Pq w pb own most Qn n X) {q : Nat} (hq : q < Qn) {x : ByteArray} {l : List ByteArray} (hX : X q = x :: l) :
    Calls Tryz.prog 52 #[.pointer (some ⟨pb, 0, none⟩), .int .i64 q] w fun e w' => ∃ i : Nat, e = .returned (.tuple #[.int .i64 i, .bool true]) ∧ Pa w pb i x ∧ ∃ k, w' = w.drewN k := by
  obtain ⟨cv, qb, hp, ho⟩ := h
  refine (t_head hp hq hX).mono ?_
  rintro e w' ⟨i, rfl, h1, h2⟩
  exact ⟨i, rfl, ⟨_, _, _, _, h1⟩, h2⟩
theorem p_headx (h : Pq w pb own most Qn n X) {q : Nat} (hq : q < Qn) {x : ByteArray} {l : List ByteArray} (hX : X q = x :: l) :
    ∃ i : Nat, Pa w pb i x ∧ ∀ u, Upd Nowhere w u → Calls Tryz.prog 52 #[.pointer (some ⟨pb, 0, none⟩), .int .i64 q] u fun e w' => e = .returned (.tuple #[.int .i64 i, .bool true]) ∧ ∃ k, w' = u.drewN k := by
  obtain ⟨cv, qb, hp, ho⟩ := h
  obtain ⟨i, h1, h2⟩ := t_headx hp hq hX
  exact ⟨i, ⟨_, _, _, _, h1⟩, h2⟩
theorem p_get {i : Nat} {x : ByteArray} (h : Pa w pb i x) :
    Calls Tryz.prog 75 #[.pointer (some ⟨pb, 0, none⟩), .int .i64 i] w fun e w' => e = .returned (.tuple #[Value.string x, .bool true]) ∧ ∃ k, w' = w.drewN k := by
  obtain ⟨cv, qb, most, Qn, h⟩ := h
  exact t_get h
end
end Go.Proofs.YtjbaibnmbeabnaaGreatDoor.PoolS
