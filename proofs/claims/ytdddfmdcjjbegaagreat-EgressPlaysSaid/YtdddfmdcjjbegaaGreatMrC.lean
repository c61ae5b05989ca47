/- R43C, R43C2, one behind the other. -/
import Derived.Test.YtdddfmdcjjbegaaGreatMrA
import Derived.Test.YtdddfmdcjjbegaaGreatMrB
import Derived.Test.YtdddfmdcjjbegaaGreatMeC3
namespace Go.Proofs.YtdddfmdcjjbegaaGreat.R43
open Go.RowKit Go.Proofs BigFrame
open RingW (It)
open First (Cf VC)
open Egs (TRk TRc polS chkS ClsAt PlnAt fstE chkE)
set_option maxHeartbeats 40000000
set_option maxRecDepth 1000000
set_option linter.unusedSimpArgs false
theorem vc_cells {w : World} {X : Nat} {x : Cf} {T : TypeId} (h : Blk w X (VC x) T) : ∀ u, Upd Nowhere w u → u.cell? ⟨X, 0, none⟩ = some (.int .i64 x.room) ∧ u.cell? ⟨X, 1, none⟩ = some (.int .i64 x.policy) ∧ u.cell? ⟨X, 2, none⟩ = some (.bool x.credit) ∧ u.cell? ⟨X, 3, none⟩ = some (.int .i64 x.idle) ∧ u.cell? ⟨X, 4, none⟩ = some (.int .i64 x.send) ∧ u.cell? ⟨X, 5, none⟩ = some (.int .i64 x.high) ∧ u.cell? ⟨X, 6, none⟩ = some (.int .u64 (x.el : Nat)) ∧ u.cell? ⟨X, 7, none⟩ = some (.int .u64 (x.eh : Nat)) ∧ u.cell? ⟨X, 8, none⟩ = some (.int .u64 (x.em : Nat)) ∧ u.cell? ⟨X, 9, none⟩ = some (.int .i64 x.es) ∧ u.cell? ⟨X, 10, none⟩ = some (.int .u64 (x.lt : Nat)) ∧ u.cell? ⟨X, 11, none⟩ = some (.int .u64 (x.li : Nat)) ∧ u.cell? ⟨X, 12, none⟩ = some (.int .u64 (x.lm : Nat)) ∧ u.cell? ⟨X, 13, none⟩ = some (.int .i64 x.window) ∧ u.cell? ⟨X, 14, none⟩ = some (.int .u64 (x.num : Nat)) ∧ u.cell? ⟨X, 15, none⟩ = some (.int .u64 (x.den : Nat)) := fun _ hu =>
 ⟨cell_old hu (h.cellAt (i := 0) rfl), cell_old hu (h.cellAt (i := 1) rfl), cell_old hu (h.cellAt (i := 2) rfl), cell_old hu (h.cellAt (i := 3) rfl), cell_old hu (h.cellAt (i := 4) rfl), cell_old hu (h.cellAt (i := 5) rfl), cell_old hu (h.cellAt (i := 6) rfl), cell_old hu (h.cellAt (i := 7) rfl), cell_old hu (h.cellAt (i := 8) rfl), cell_old hu (h.cellAt (i := 9) rfl), cell_old hu (h.cellAt (i := 10) rfl), cell_old hu (h.cellAt (i := 11) rfl), cell_old hu (h.cellAt (i := 12) rfl), cell_old hu (h.cellAt (i := 13) rfl), cell_old hu (h.cellAt (i := 14) rfl), cell_old hu (h.cellAt (i := 15) rfl)⟩
theorem c_room {w : World} {c : Cf} (h : c.room < 1 ∨ 4096 < c.room) :
 Calls Tryz.prog 49 #[.agg (VC c)] w fun x w' => x = .returned (.int .i64 25) ∧ Upd Nowhere w w' := by
 have hU : Upd Nowhere w (w.alloc (.cells (VC c) TRk)) := (Upd.refl _ _).alloc _
 have HX := Lib.hid (vc_cells (Blk.new w (VC c) TRk))
 obtain ⟨x0, x1, x2, x3, x4, x5, x6, x7, x8, x9, x10, x11, x12, x13, x14, x15⟩ := c
 dsimp only at hU HX h ⊢
 have HU := Lib.hid hU
 clear hU
 obtain ⟨m0, m1, m2, m3, m4, m5, m6, m7, m8, m9, m10, m11, m12, m13, m14, m15⟩ := HX.out _ (Upd.refl _ _)
 by_cases h1 : x0 < 1
 case' pos => have d1 : decide (x0 < 1) = true := decide_eq_true h1
 case' neg =>
  have d1 : decide (x0 < 1) = false := decide_eq_false h1
  have d2 : decide (x0 > 4096) = true := decide_eq_true (by omega)
  have d3 : decide (4096 < x0) = true := decide_eq_true (by omega)
 all_goals clear h h1
 all_goals
  go_enter Tryz.func49, Tryz.ntmps49
  go_wp2_with fail
  go_ret
  exact ⟨rfl, HU.out⟩
theorem c_kind {w : World} {c : Cf} (h : (1 ≤ c.room ∧ c.room ≤ 4096) ∧ (c.policy < 0 ∨ 4 < c.policy)) :
 Calls Tryz.prog 49 #[.agg (VC c)] w fun x w' => x = .returned (.int .i64 22) ∧ Upd Nowhere w w' := by
 have hU : Upd Nowhere w (w.alloc (.cells (VC c) TRk)) := (Upd.refl _ _).alloc _
 have HX := Lib.hid (vc_cells (Blk.new w (VC c) TRk))
 obtain ⟨x0, x1, x2, x3, x4, x5, x6, x7, x8, x9, x10, x11, x12, x13, x14, x15⟩ := c
 dsimp only at hU HX h ⊢
 have HU := Lib.hid hU
 clear hU
 obtain ⟨m0, m1, m2, m3, m4, m5, m6, m7, m8, m9, m10, m11, m12, m13, m14, m15⟩ := HX.out _ (Upd.refl _ _)
 have r1 : decide (x0 < 1) = false := decide_eq_false (by omega)
 have r2 : decide (x0 > 4096) = false := decide_eq_false (by omega)
 have r3 : decide (4096 < x0) = false := decide_eq_false (by omega)
 by_cases h1 : x1 < 0
 case' pos => have d1 : decide (x1 < 0) = true := decide_eq_true h1
 case' neg =>
  have d1 : decide (x1 < 0) = false := decide_eq_false h1
  have d2 : decide (x1 > 4) = true := decide_eq_true (by omega)
  have d3 : decide (4 < x1) = true := decide_eq_true (by omega)
 all_goals clear h h1
 all_goals
  go_enter Tryz.func49, Tryz.ntmps49
  go_wp2_with fail
  go_ret
  exact ⟨rfl, HU.out⟩
theorem c_one_no {w : World} {c : Cf} (h : (1 ≤ c.room ∧ c.room ≤ 4096) ∧ c.policy = 1 ∧ ¬ Red.ok c.el c.eh c.em c.es) :
 Calls Tryz.prog 49 #[.agg (VC c)] w fun x w' => x = .returned (.int .i64 6) ∧ Upd Nowhere w w' := by
 have hU : Upd Nowhere w (w.alloc (.cells (VC c) TRk)) := (Upd.refl _ _).alloc _
 have HX := Lib.hid (vc_cells (Blk.new w (VC c) TRk))
 obtain ⟨x0, x1, x2, x3, x4, x5, x6, x7, x8, x9, x10, x11, x12, x13, x14, x15⟩ := c
 dsimp only at hU HX h ⊢
 have HU := Lib.hid hU
 clear hU
 obtain ⟨m0, m1, m2, m3, m4, m5, m6, m7, m8, m9, m10, m11, m12, m13, m14, m15⟩ := HX.out _ (Upd.refl _ _)
 have r1 : decide (x0 < 1) = false := decide_eq_false (by omega)
 have r2 : decide (x0 > 4096) = false := decide_eq_false (by omega)
 have r3 : decide (4096 < x0) = false := decide_eq_false (by omega)
 have p1 : decide (x1 < 0) = false := decide_eq_false (by omega)
 have p2 : decide (x1 > 4) = false := decide_eq_false (by omega)
 have p3 : decide (4 < x1) = false := decide_eq_false (by omega)
 have q1 : (x1 == 1) = true := by simp; omega
 have HM := fun u => Lib.hid (Red.may_no x6 x7 x8 x9 h.2.2 u)
 clear h
 go_enter Tryz.func49, Tryz.ntmps49
 go_wp2_with fail
 refine ((HM _).out).mono ?_
 rintro e w2 ⟨rfl, u2⟩
 go_wp2_with fail
 go_ret
 exact ⟨rfl, HU.out.trans u2 (fun _ _ h => h)⟩
theorem c_two_no {w : World} {c : Cf} (h : (1 ≤ c.room ∧ c.room ≤ 4096) ∧ c.policy = 2 ∧ ¬ (1 ≤ c.li ∧ c.li ≤ 2147483648)) :
 Calls Tryz.prog 49 #[.agg (VC c)] w fun x w' => x = .returned (.int .i64 6) ∧ Upd Nowhere w w' := by
 have hU : Upd Nowhere w (w.alloc (.cells (VC c) TRk)) := (Upd.refl _ _).alloc _
 have HX := Lib.hid (vc_cells (Blk.new w (VC c) TRk))
 obtain ⟨x0, x1, x2, x3, x4, x5, x6, x7, x8, x9, x10, x11, x12, x13, x14, x15⟩ := c
 dsimp only at hU HX h ⊢
 have HU := Lib.hid hU
 clear hU
 obtain ⟨m0, m1, m2, m3, m4, m5, m6, m7, m8, m9, m10, m11, m12, m13, m14, m15⟩ := HX.out _ (Upd.refl _ _)
 have r1 : decide (x0 < 1) = false := decide_eq_false (by omega)
 have r2 : decide (x0 > 4096) = false := decide_eq_false (by omega)
 have r3 : decide (4096 < x0) = false := decide_eq_false (by omega)
 have p1 : decide (x1 < 0) = false := decide_eq_false (by omega)
 have p2 : decide (x1 > 4) = false := decide_eq_false (by omega)
 have p3 : decide (4 < x1) = false := decide_eq_false (by omega)
 have q1 : (x1 == 1) = false := by simp; omega
 have q2 : (x1 == 2) = true := by simp; omega
 have HM := fun u => Lib.hid (Codel.may_no x10 x11 x12 h.2.2 u)
 clear h
 go_enter Tryz.func49, Tryz.ntmps49
 go_wp2_with fail
 refine ((HM _).out).mono ?_
 rintro e w2 ⟨rfl, u2⟩
 go_wp2_with fail
 go_ret
 exact ⟨rfl, HU.out.trans u2 (fun _ _ h => h)⟩
theorem c_three_no {w : World} {c : Cf} (h : (1 ≤ c.room ∧ c.room ≤ 4096) ∧ c.policy = 3 ∧ Aifo.newOf c.room c.window c.num c.den ≠ 0) :
 Calls Tryz.prog 49 #[.agg (VC c)] w fun x w' => x = .returned (.int .i64 (Aifo.newOf c.room c.window c.num c.den)) ∧ Upd Nowhere w w' := by
 have hU : Upd Nowhere w (w.alloc (.cells (VC c) TRk)) := (Upd.refl _ _).alloc _
 have HX := Lib.hid (vc_cells (Blk.new w (VC c) TRk))
 obtain ⟨x0, x1, x2, x3, x4, x5, x6, x7, x8, x9, x10, x11, x12, x13, x14, x15⟩ := c
 dsimp only at hU HX h ⊢
 have HU := Lib.hid hU
 clear hU
 obtain ⟨m0, m1, m2, m3, m4, m5, m6, m7, m8, m9, m10, m11, m12, m13, m14, m15⟩ := HX.out _ (Upd.refl _ _)
 have r1 : decide (x0 < 1) = false := decide_eq_false (by omega)
 have r2 : decide (x0 > 4096) = false := decide_eq_false (by omega)
 have r3 : decide (4096 < x0) = false := decide_eq_false (by omega)
 have p1 : decide (x1 < 0) = false := decide_eq_false (by omega)
 have p2 : decide (x1 > 4) = false := decide_eq_false (by omega)
 have p3 : decide (4 < x1) = false := decide_eq_false (by omega)
 have q1 : (x1 == 1) = false := by simp; omega
 have q2 : (x1 == 2) = false := by simp; omega
 have q3 : (x1 == 3) = true := by simp; omega
 have HM := fun u => Lib.hid (Aifo.check_any u x0 x13 x14 x15)
 obtain ⟨e, he⟩ : ∃ e, Aifo.newOf x0 x13 x14 x15 = e := ⟨_, rfl⟩
 rw [he] at HM h ⊢
 have d9 : (e != 0) = true := by simpa using h.2.2
 clear h he
 go_enter Tryz.func49, Tryz.ntmps49
 go_wp2_with fail
 refine ((HM _).out).mono ?_
 rintro e w2 ⟨rfl, rfl⟩
 go_wp2_with fail
 go_ret
 exact ⟨rfl, HU.out⟩
theorem c_zero_n {w : World} {c : Cf} (h : (1 ≤ c.room ∧ c.room ≤ 4096) ∧ (c.policy = 0 ∨ c.policy = 4) ∧ c.credit = false) :
 Calls Tryz.prog 49 #[.agg (VC c)] w fun x w' => x = .returned (.int .i64 0) ∧ Upd Nowhere w w' := by
 have hU : Upd Nowhere w (w.alloc (.cells (VC c) TRk)) := (Upd.refl _ _).alloc _
 have HX := Lib.hid (vc_cells (Blk.new w (VC c) TRk))
 obtain ⟨x0, x1, x2, x3, x4, x5, x6, x7, x8, x9, x10, x11, x12, x13, x14, x15⟩ := c
 dsimp only at hU HX h ⊢
 have HU := Lib.hid hU
 clear hU
 obtain ⟨m0, m1, m2, m3, m4, m5, m6, m7, m8, m9, m10, m11, m12, m13, m14, m15⟩ := HX.out _ (Upd.refl _ _)
 have r1 : decide (x0 < 1) = false := decide_eq_false (by omega)
 have r2 : decide (x0 > 4096) = false := decide_eq_false (by omega)
 have r3 : decide (4096 < x0) = false := decide_eq_false (by omega)
 have p1 : decide (x1 < 0) = false := decide_eq_false (by omega)
 have p2 : decide (x1 > 4) = false := decide_eq_false (by omega)
 have p3 : decide (4 < x1) = false := decide_eq_false (by omega)
 have q1 : (x1 == 1) = false := by simp; omega
 have q2 : (x1 == 2) = false := by simp; omega
 have q3 : (x1 == 3) = false := by simp; omega
 obtain rfl : x2 = false := h.2.2
 clear h
 go_enter Tryz.func49, Tryz.ntmps49
 go_wp2_with fail
 go_ret
 exact ⟨rfl, HU.out⟩
theorem c_zero_o {w : World} {c : Cf} (h : (1 ≤ c.room ∧ c.room ≤ 4096) ∧ (c.policy = 0 ∨ c.policy = 4) ∧ c.credit = true ∧ Credit.okc c.idle c.send c.high 0) :
 Calls Tryz.prog 49 #[.agg (VC c)] w fun x w' => x = .returned (.int .i64 0) ∧ Upd Nowhere w w' := by
 have hU : Upd Nowhere w (w.alloc (.cells (VC c) TRk)) := (Upd.refl _ _).alloc _
 have HX := Lib.hid (vc_cells (Blk.new w (VC c) TRk))
 obtain ⟨x0, x1, x2, x3, x4, x5, x6, x7, x8, x9, x10, x11, x12, x13, x14, x15⟩ := c
 dsimp only at hU HX h ⊢
 have HU := Lib.hid hU
 clear hU
 obtain ⟨m0, m1, m2, m3, m4, m5, m6, m7, m8, m9, m10, m11, m12, m13, m14, m15⟩ := HX.out _ (Upd.refl _ _)
 have r1 : decide (x0 < 1) = false := decide_eq_false (by omega)
 have r2 : decide (x0 > 4096) = false := decide_eq_false (by omega)
 have r3 : decide (4096 < x0) = false := decide_eq_false (by omega)
 have p1 : decide (x1 < 0) = false := decide_eq_false (by omega)
 have p2 : decide (x1 > 4) = false := decide_eq_false (by omega)
 have p3 : decide (4 < x1) = false := decide_eq_false (by omega)
 have q1 : (x1 == 1) = false := by simp; omega
 have q2 : (x1 == 2) = false := by simp; omega
 have q3 : (x1 == 3) = false := by simp; omega
 obtain rfl : x2 = true := h.2.2.1
 have HC := fun u => Lib.hid (Ref23.may_any x3 x4 x5 0 u)
 rw [Ref23.mayR_iff.2 h.2.2.2] at HC
 clear h
 go_enter Tryz.func49, Tryz.ntmps49
 go_wp2_with fail
 refine ((HC _).out).mono ?_
 rintro e w5 ⟨rfl, u5⟩
 go_wp2_with fail
 go_ret
 exact ⟨rfl, (HU.out).trans u5 (fun _ _ h => h)⟩
theorem c_zero_x {w : World} {c : Cf} (h : (1 ≤ c.room ∧ c.room ≤ 4096) ∧ (c.policy = 0 ∨ c.policy = 4) ∧ c.credit = true ∧ ¬ Credit.okc c.idle c.send c.high 0) :
 Calls Tryz.prog 49 #[.agg (VC c)] w fun x w' => x = .returned (.int .i64 6) ∧ Upd Nowhere w w' := by
 have hU : Upd Nowhere w (w.alloc (.cells (VC c) TRk)) := (Upd.refl _ _).alloc _
 have HX := Lib.hid (vc_cells (Blk.new w (VC c) TRk))
 obtain ⟨x0, x1, x2, x3, x4, x5, x6, x7, x8, x9, x10, x11, x12, x13, x14, x15⟩ := c
 dsimp only at hU HX h ⊢
 have HU := Lib.hid hU
 clear hU
 obtain ⟨m0, m1, m2, m3, m4, m5, m6, m7, m8, m9, m10, m11, m12, m13, m14, m15⟩ := HX.out _ (Upd.refl _ _)
 have r1 : decide (x0 < 1) = false := decide_eq_false (by omega)
 have r2 : decide (x0 > 4096) = false := decide_eq_false (by omega)
 have r3 : decide (4096 < x0) = false := decide_eq_false (by omega)
 have p1 : decide (x1 < 0) = false := decide_eq_false (by omega)
 have p2 : decide (x1 > 4) = false := decide_eq_false (by omega)
 have p3 : decide (4 < x1) = false := decide_eq_false (by omega)
 have q1 : (x1 == 1) = false := by simp; omega
 have q2 : (x1 == 2) = false := by simp; omega
 have q3 : (x1 == 3) = false := by simp; omega
 obtain rfl : x2 = true := h.2.2.1
 have HC := fun u => Lib.hid (Ref23.may_any x3 x4 x5 0 u)
 rw [Bool.eq_false_iff.2 (fun h9 => h.2.2.2 (Ref23.mayR_iff.1 h9))] at HC
 clear h
 go_enter Tryz.func49, Tryz.ntmps49
 go_wp2_with fail
 refine ((HC _).out).mono ?_
 rintro e w5 ⟨rfl, u5⟩
 go_wp2_with fail
 go_ret
 exact ⟨rfl, (HU.out).trans u5 (fun _ _ h => h)⟩
theorem c_one_n {w : World} {c : Cf} (h : (1 ≤ c.room ∧ c.room ≤ 4096) ∧ (c.policy = 1 ∧ Red.ok c.el c.eh c.em c.es) ∧ c.credit = false) :
 Calls Tryz.prog 49 #[.agg (VC c)] w fun x w' => x = .returned (.int .i64 0) ∧ Upd Nowhere w w' := by
 have hU : Upd Nowhere w (w.alloc (.cells (VC c) TRk)) := (Upd.refl _ _).alloc _
 have HX := Lib.hid (vc_cells (Blk.new w (VC c) TRk))
 obtain ⟨x0, x1, x2, x3, x4, x5, x6, x7, x8, x9, x10, x11, x12, x13, x14, x15⟩ := c
 dsimp only at hU HX h ⊢
 have HU := Lib.hid hU
 clear hU
 obtain ⟨m0, m1, m2, m3, m4, m5, m6, m7, m8, m9, m10, m11, m12, m13, m14, m15⟩ := HX.out _ (Upd.refl _ _)
 have r1 : decide (x0 < 1) = false := decide_eq_false (by omega)
 have r2 : decide (x0 > 4096) = false := decide_eq_false (by omega)
 have r3 : decide (4096 < x0) = false := decide_eq_false (by omega)
 have p1 : decide (x1 < 0) = false := decide_eq_false (by omega)
 have p2 : decide (x1 > 4) = false := decide_eq_false (by omega)
 have p3 : decide (4 < x1) = false := decide_eq_false (by omega)
 have q1 : (x1 == 1) = true := by simp; omega
 have q2 : (x1 == 2) = false := by simp; omega
 have q3 : (x1 == 3) = false := by simp; omega
 have HM := fun u => Lib.hid (Red.may_ok x6 x7 x8 x9 h.2.1.2 u)
 obtain rfl : x2 = false := h.2.2
 clear h
 go_enter Tryz.func49, Tryz.ntmps49
 go_wp2_with fail
 refine ((HM _).out).mono ?_
 rintro e w2 ⟨rfl, u2⟩
 clear m0 m1 m2 m3 m4 m5 m6 m7 m8 m9 m10 m11 m12 m13 m14 m15
 obtain ⟨m0, m1, m2, m3, m4, m5, m6, m7, m8, m9, m10, m11, m12, m13, m14, m15⟩ := HX.out _ u2
 go_wp2_with fail
 go_ret
 exact ⟨rfl, HU.out.trans u2 (fun _ _ h => h)⟩
theorem c_one_o {w : World} {c : Cf} (h : (1 ≤ c.room ∧ c.room ≤ 4096) ∧ (c.policy = 1 ∧ Red.ok c.el c.eh c.em c.es) ∧ c.credit = true ∧ Credit.okc c.idle c.send c.high 0) :
 Calls Tryz.prog 49 #[.agg (VC c)] w fun x w' => x = .returned (.int .i64 0) ∧ Upd Nowhere w w' := by
 have hU : Upd Nowhere w (w.alloc (.cells (VC c) TRk)) := (Upd.refl _ _).alloc _
 have HX := Lib.hid (vc_cells (Blk.new w (VC c) TRk))
 obtain ⟨x0, x1, x2, x3, x4, x5, x6, x7, x8, x9, x10, x11, x12, x13, x14, x15⟩ := c
 dsimp only at hU HX h ⊢
 have HU := Lib.hid hU
 clear hU
 obtain ⟨m0, m1, m2, m3, m4, m5, m6, m7, m8, m9, m10, m11, m12, m13, m14, m15⟩ := HX.out _ (Upd.refl _ _)
 have r1 : decide (x0 < 1) = false := decide_eq_false (by omega)
 have r2 : decide (x0 > 4096) = false := decide_eq_false (by omega)
 have r3 : decide (4096 < x0) = false := decide_eq_false (by omega)
 have p1 : decide (x1 < 0) = false := decide_eq_false (by omega)
 have p2 : decide (x1 > 4) = false := decide_eq_false (by omega)
 have p3 : decide (4 < x1) = false := decide_eq_false (by omega)
 have q1 : (x1 == 1) = true := by simp; omega
 have q2 : (x1 == 2) = false := by simp; omega
 have q3 : (x1 == 3) = false := by simp; omega
 have HM := fun u => Lib.hid (Red.may_ok x6 x7 x8 x9 h.2.1.2 u)
 obtain rfl : x2 = true := h.2.2.1
 have HC := fun u => Lib.hid (Ref23.may_any x3 x4 x5 0 u)
 rw [Ref23.mayR_iff.2 h.2.2.2] at HC
 clear h
 go_enter Tryz.func49, Tryz.ntmps49
 go_wp2_with fail
 refine ((HM _).out).mono ?_
 rintro e w2 ⟨rfl, u2⟩
 clear m0 m1 m2 m3 m4 m5 m6 m7 m8 m9 m10 m11 m12 m13 m14 m15
 obtain ⟨m0, m1, m2, m3, m4, m5, m6, m7, m8, m9, m10, m11, m12, m13, m14, m15⟩ := HX.out _ u2
 go_wp2_with fail
 refine ((HC _).out).mono ?_
 rintro e w5 ⟨rfl, u5⟩
 go_wp2_with fail
 go_ret
 exact ⟨rfl, (HU.out.trans u2 (fun _ _ h => h)).trans u5 (fun _ _ h => h)⟩
theorem c_one_x {w : World} {c : Cf} (h : (1 ≤ c.room ∧ c.room ≤ 4096) ∧ (c.policy = 1 ∧ Red.ok c.el c.eh c.em c.es) ∧ c.credit = true ∧ ¬ Credit.okc c.idle c.send c.high 0) :
 Calls Tryz.prog 49 #[.agg (VC c)] w fun x w' => x = .returned (.int .i64 6) ∧ Upd Nowhere w w' := by
 have hU : Upd Nowhere w (w.alloc (.cells (VC c) TRk)) := (Upd.refl _ _).alloc _
 have HX := Lib.hid (vc_cells (Blk.new w (VC c) TRk))
 obtain ⟨x0, x1, x2, x3, x4, x5, x6, x7, x8, x9, x10, x11, x12, x13, x14, x15⟩ := c
 dsimp only at hU HX h ⊢
 have HU := Lib.hid hU
 clear hU
 obtain ⟨m0, m1, m2, m3, m4, m5, m6, m7, m8, m9, m10, m11, m12, m13, m14, m15⟩ := HX.out _ (Upd.refl _ _)
 have r1 : decide (x0 < 1) = false := decide_eq_false (by omega)
 have r2 : decide (x0 > 4096) = false := decide_eq_false (by omega)
 have r3 : decide (4096 < x0) = false := decide_eq_false (by omega)
 have p1 : decide (x1 < 0) = false := decide_eq_false (by omega)
 have p2 : decide (x1 > 4) = false := decide_eq_false (by omega)
 have p3 : decide (4 < x1) = false := decide_eq_false (by omega)
 have q1 : (x1 == 1) = true := by simp; omega
 have q2 : (x1 == 2) = false := by simp; omega
 have q3 : (x1 == 3) = false := by simp; omega
 have HM := fun u => Lib.hid (Red.may_ok x6 x7 x8 x9 h.2.1.2 u)
 obtain rfl : x2 = true := h.2.2.1
 have HC := fun u => Lib.hid (Ref23.may_any x3 x4 x5 0 u)
 rw [Bool.eq_false_iff.2 (fun h9 => h.2.2.2 (Ref23.mayR_iff.1 h9))] at HC
 clear h
 go_enter Tryz.func49, Tryz.ntmps49
 go_wp2_with fail
 refine ((HM _).out).mono ?_
 rintro e w2 ⟨rfl, u2⟩
 clear m0 m1 m2 m3 m4 m5 m6 m7 m8 m9 m10 m11 m12 m13 m14 m15
 obtain ⟨m0, m1, m2, m3, m4, m5, m6, m7, m8, m9, m10, m11, m12, m13, m14, m15⟩ := HX.out _ u2
 go_wp2_with fail
 refine ((HC _).out).mono ?_
 rintro e w5 ⟨rfl, u5⟩
 go_wp2_with fail
 go_ret
 exact ⟨rfl, (HU.out.trans u2 (fun _ _ h => h)).trans u5 (fun _ _ h => h)⟩
theorem c_two_n {w : World} {c : Cf} (h : (1 ≤ c.room ∧ c.room ≤ 4096) ∧ (c.policy = 2 ∧ (1 ≤ c.li ∧ c.li ≤ 2147483648)) ∧ c.credit = false) :
 Calls Tryz.prog 49 #[.agg (VC c)] w fun x w' => x = .returned (.int .i64 0) ∧ Upd Nowhere w w' := by
 have hU : Upd Nowhere w (w.alloc (.cells (VC c) TRk)) := (Upd.refl _ _).alloc _
 have HX := Lib.hid (vc_cells (Blk.new w (VC c) TRk))
 obtain ⟨x0, x1, x2, x3, x4, x5, x6, x7, x8, x9, x10, x11, x12, x13, x14, x15⟩ := c
 dsimp only at hU HX h ⊢
 have HU := Lib.hid hU
 clear hU
 obtain ⟨m0, m1, m2, m3, m4, m5, m6, m7, m8, m9, m10, m11, m12, m13, m14, m15⟩ := HX.out _ (Upd.refl _ _)
 have r1 : decide (x0 < 1) = false := decide_eq_false (by omega)
 have r2 : decide (x0 > 4096) = false := decide_eq_false (by omega)
 have r3 : decide (4096 < x0) = false := decide_eq_false (by omega)
 have p1 : decide (x1 < 0) = false := decide_eq_false (by omega)
 have p2 : decide (x1 > 4) = false := decide_eq_false (by omega)
 have p3 : decide (4 < x1) = false := decide_eq_false (by omega)
 have q1 : (x1 == 1) = false := by simp; omega
 have q2 : (x1 == 2) = true := by simp; omega
 have q3 : (x1 == 3) = false := by simp; omega
 have HM := fun u => Lib.hid (Codel.may_ok x10 x11 x12 h.2.1.2.1 h.2.1.2.2 u)
 obtain rfl : x2 = false := h.2.2
 clear h
 go_enter Tryz.func49, Tryz.ntmps49
 go_wp2_with fail
 refine ((HM _).out).mono ?_
 rintro e w2 ⟨rfl, u2⟩
 clear m0 m1 m2 m3 m4 m5 m6 m7 m8 m9 m10 m11 m12 m13 m14 m15
 obtain ⟨m0, m1, m2, m3, m4, m5, m6, m7, m8, m9, m10, m11, m12, m13, m14, m15⟩ := HX.out _ u2
 go_wp2_with fail
 go_ret
 exact ⟨rfl, HU.out.trans u2 (fun _ _ h => h)⟩
theorem c_two_o {w : World} {c : Cf} (h : (1 ≤ c.room ∧ c.room ≤ 4096) ∧ (c.policy = 2 ∧ (1 ≤ c.li ∧ c.li ≤ 2147483648)) ∧ c.credit = true ∧ Credit.okc c.idle c.send c.high 0) :
 Calls Tryz.prog 49 #[.agg (VC c)] w fun x w' => x = .returned (.int .i64 0) ∧ Upd Nowhere w w' := by
 have hU : Upd Nowhere w (w.alloc (.cells (VC c) TRk)) := (Upd.refl _ _).alloc _
 have HX := Lib.hid (vc_cells (Blk.new w (VC c) TRk))
 obtain ⟨x0, x1, x2, x3, x4, x5, x6, x7, x8, x9, x10, x11, x12, x13, x14, x15⟩ := c
 dsimp only at hU HX h ⊢
 have HU := Lib.hid hU
 clear hU
 obtain ⟨m0, m1, m2, m3, m4, m5, m6, m7, m8, m9, m10, m11, m12, m13, m14, m15⟩ := HX.out _ (Upd.refl _ _)
 have r1 : decide (x0 < 1) = false := decide_eq_false (by omega)
 have r2 : decide (x0 > 4096) = false := decide_eq_false (by omega)
 have r3 : decide (4096 < x0) = false := decide_eq_false (by omega)
 have p1 : decide (x1 < 0) = false := decide_eq_false (by omega)
 have p2 : decide (x1 > 4) = false := decide_eq_false (by omega)
 have p3 : decide (4 < x1) = false := decide_eq_false (by omega)
 have q1 : (x1 == 1) = false := by simp; omega
 have q2 : (x1 == 2) = true := by simp; omega
 have q3 : (x1 == 3) = false := by simp; omega
 have HM := fun u => Lib.hid (Codel.may_ok x10 x11 x12 h.2.1.2.1 h.2.1.2.2 u)
 obtain rfl : x2 = true := h.2.2.1
 have HC := fun u => Lib.hid (Ref23.may_any x3 x4 x5 0 u)
 rw [Ref23.mayR_iff.2 h.2.2.2] at HC
 clear h
 go_enter Tryz.func49, Tryz.ntmps49
 go_wp2_with fail
 refine ((HM _).out).mono ?_
 rintro e w2 ⟨rfl, u2⟩
 clear m0 m1 m2 m3 m4 m5 m6 m7 m8 m9 m10 m11 m12 m13 m14 m15
 obtain ⟨m0, m1, m2, m3, m4, m5, m6, m7, m8, m9, m10, m11, m12, m13, m14, m15⟩ := HX.out _ u2
 go_wp2_with fail
 refine ((HC _).out).mono ?_
 rintro e w5 ⟨rfl, u5⟩
 go_wp2_with fail
 go_ret
 exact ⟨rfl, (HU.out.trans u2 (fun _ _ h => h)).trans u5 (fun _ _ h => h)⟩
theorem c_two_x {w : World} {c : Cf} (h : (1 ≤ c.room ∧ c.room ≤ 4096) ∧ (c.policy = 2 ∧ (1 ≤ c.li ∧ c.li ≤ 2147483648)) ∧ c.credit = true ∧ ¬ Credit.okc c.idle c.send c.high 0) :
 Calls Tryz.prog 49 #[.agg (VC c)] w fun x w' => x = .returned (.int .i64 6) ∧ Upd Nowhere w w' := by
 have hU : Upd Nowhere w (w.alloc (.cells (VC c) TRk)) := (Upd.refl _ _).alloc _
 have HX := Lib.hid (vc_cells (Blk.new w (VC c) TRk))
 obtain ⟨x0, x1, x2, x3, x4, x5, x6, x7, x8, x9, x10, x11, x12, x13, x14, x15⟩ := c
 dsimp only at hU HX h ⊢
 have HU := Lib.hid hU
 clear hU
 obtain ⟨m0, m1, m2, m3, m4, m5, m6, m7, m8, m9, m10, m11, m12, m13, m14, m15⟩ := HX.out _ (Upd.refl _ _)
 have r1 : decide (x0 < 1) = false := decide_eq_false (by omega)
 have r2 : decide (x0 > 4096) = false := decide_eq_false (by omega)
 have r3 : decide (4096 < x0) = false := decide_eq_false (by omega)
 have p1 : decide (x1 < 0) = false := decide_eq_false (by omega)
 have p2 : decide (x1 > 4) = false := decide_eq_false (by omega)
 have p3 : decide (4 < x1) = false := decide_eq_false (by omega)
 have q1 : (x1 == 1) = false := by simp; omega
 have q2 : (x1 == 2) = true := by simp; omega
 have q3 : (x1 == 3) = false := by simp; omega
 have HM := fun u => Lib.hid (Codel.may_ok x10 x11 x12 h.2.1.2.1 h.2.1.2.2 u)
 obtain rfl : x2 = true := h.2.2.1
 have HC := fun u => Lib.hid (Ref23.may_any x3 x4 x5 0 u)
 rw [Bool.eq_false_iff.2 (fun h9 => h.2.2.2 (Ref23.mayR_iff.1 h9))] at HC
 clear h
 go_enter Tryz.func49, Tryz.ntmps49
 go_wp2_with fail
 refine ((HM _).out).mono ?_
 rintro e w2 ⟨rfl, u2⟩
 clear m0 m1 m2 m3 m4 m5 m6 m7 m8 m9 m10 m11 m12 m13 m14 m15
 obtain ⟨m0, m1, m2, m3, m4, m5, m6, m7, m8, m9, m10, m11, m12, m13, m14, m15⟩ := HX.out _ u2
 go_wp2_with fail
 refine ((HC _).out).mono ?_
 rintro e w5 ⟨rfl, u5⟩
 go_wp2_with fail
 go_ret
 exact ⟨rfl, (HU.out.trans u2 (fun _ _ h => h)).trans u5 (fun _ _ h => h)⟩
theorem c_three_n {w : World} {c : Cf} (h : (1 ≤ c.room ∧ c.room ≤ 4096) ∧ (c.policy = 3 ∧ Aifo.newOf c.room c.window c.num c.den = 0) ∧ c.credit = false) :
 Calls Tryz.prog 49 #[.agg (VC c)] w fun x w' => x = .returned (.int .i64 0) ∧ Upd Nowhere w w' := by
 have hU : Upd Nowhere w (w.alloc (.cells (VC c) TRk)) := (Upd.refl _ _).alloc _
 have HX := Lib.hid (vc_cells (Blk.new w (VC c) TRk))
 obtain ⟨x0, x1, x2, x3, x4, x5, x6, x7, x8, x9, x10, x11, x12, x13, x14, x15⟩ := c
 dsimp only at hU HX h ⊢
 have HU := Lib.hid hU
 clear hU
 obtain ⟨m0, m1, m2, m3, m4, m5, m6, m7, m8, m9, m10, m11, m12, m13, m14, m15⟩ := HX.out _ (Upd.refl _ _)
 have r1 : decide (x0 < 1) = false := decide_eq_false (by omega)
 have r2 : decide (x0 > 4096) = false := decide_eq_false (by omega)
 have r3 : decide (4096 < x0) = false := decide_eq_false (by omega)
 have p1 : decide (x1 < 0) = false := decide_eq_false (by omega)
 have p2 : decide (x1 > 4) = false := decide_eq_false (by omega)
 have p3 : decide (4 < x1) = false := decide_eq_false (by omega)
 have q1 : (x1 == 1) = false := by simp; omega
 have q2 : (x1 == 2) = false := by simp; omega
 have q3 : (x1 == 3) = true := by simp; omega
 have HM := fun u => Lib.hid (Aifo.check_any u x0 x13 x14 x15)
 rw [h.2.1.2] at HM
 obtain rfl : x2 = false := h.2.2
 clear h
 go_enter Tryz.func49, Tryz.ntmps49
 go_wp2_with fail
 refine ((HM _).out).mono ?_
 rintro e w2 ⟨rfl, rfl⟩
 go_wp2_with fail
 go_ret
 exact ⟨rfl, HU.out⟩
theorem c_three_o {w : World} {c : Cf} (h : (1 ≤ c.room ∧ c.room ≤ 4096) ∧ (c.policy = 3 ∧ Aifo.newOf c.room c.window c.num c.den = 0) ∧ c.credit = true ∧ Credit.okc c.idle c.send c.high 0) :
 Calls Tryz.prog 49 #[.agg (VC c)] w fun x w' => x = .returned (.int .i64 0) ∧ Upd Nowhere w w' := by
 have hU : Upd Nowhere w (w.alloc (.cells (VC c) TRk)) := (Upd.refl _ _).alloc _
 have HX := Lib.hid (vc_cells (Blk.new w (VC c) TRk))
 obtain ⟨x0, x1, x2, x3, x4, x5, x6, x7, x8, x9, x10, x11, x12, x13, x14, x15⟩ := c
 dsimp only at hU HX h ⊢
 have HU := Lib.hid hU
 clear hU
 obtain ⟨m0, m1, m2, m3, m4, m5, m6, m7, m8, m9, m10, m11, m12, m13, m14, m15⟩ := HX.out _ (Upd.refl _ _)
 have r1 : decide (x0 < 1) = false := decide_eq_false (by omega)
 have r2 : decide (x0 > 4096) = false := decide_eq_false (by omega)
 have r3 : decide (4096 < x0) = false := decide_eq_false (by omega)
 have p1 : decide (x1 < 0) = false := decide_eq_false (by omega)
 have p2 : decide (x1 > 4) = false := decide_eq_false (by omega)
 have p3 : decide (4 < x1) = false := decide_eq_false (by omega)
 have q1 : (x1 == 1) = false := by simp; omega
 have q2 : (x1 == 2) = false := by simp; omega
 have q3 : (x1 == 3) = true := by simp; omega
 have HM := fun u => Lib.hid (Aifo.check_any u x0 x13 x14 x15)
 rw [h.2.1.2] at HM
 obtain rfl : x2 = true := h.2.2.1
 have HC := fun u => Lib.hid (Ref23.may_any x3 x4 x5 0 u)
 rw [Ref23.mayR_iff.2 h.2.2.2] at HC
 clear h
 go_enter Tryz.func49, Tryz.ntmps49
 go_wp2_with fail
 refine ((HM _).out).mono ?_
 rintro e w2 ⟨rfl, rfl⟩
 go_wp2_with fail
 refine ((HC _).out).mono ?_
 rintro e w5 ⟨rfl, u5⟩
 go_wp2_with fail
 go_ret
 exact ⟨rfl, (HU.out).trans u5 (fun _ _ h => h)⟩
theorem c_three_x {w : World} {c : Cf} (h : (1 ≤ c.room ∧ c.room ≤ 4096) ∧ (c.policy = 3 ∧ Aifo.newOf c.room c.window c.num c.den = 0) ∧ c.credit = true ∧ ¬ Credit.okc c.idle c.send c.high 0) :
 Calls Tryz.prog 49 #[.agg (VC c)] w fun x w' => x = .returned (.int .i64 6) ∧ Upd Nowhere w w' := by
 have hU : Upd Nowhere w (w.alloc (.cells (VC c) TRk)) := (Upd.refl _ _).alloc _
 have HX := Lib.hid (vc_cells (Blk.new w (VC c) TRk))
 obtain ⟨x0, x1, x2, x3, x4, x5, x6, x7, x8, x9, x10, x11, x12, x13, x14, x15⟩ := c
 dsimp only at hU HX h ⊢
 have HU := Lib.hid hU
 clear hU
 obtain ⟨m0, m1, m2, m3, m4, m5, m6, m7, m8, m9, m10, m11, m12, m13, m14, m15⟩ := HX.out _ (Upd.refl _ _)
 have r1 : decide (x0 < 1) = false := decide_eq_false (by omega)
 have r2 : decide (x0 > 4096) = false := decide_eq_false (by omega)
 have r3 : decide (4096 < x0) = false := decide_eq_false (by omega)
 have p1 : decide (x1 < 0) = false := decide_eq_false (by omega)
 have p2 : decide (x1 > 4) = false := decide_eq_false (by omega)
 have p3 : decide (4 < x1) = false := decide_eq_false (by omega)
 have q1 : (x1 == 1) = false := by simp; omega
 have q2 : (x1 == 2) = false := by simp; omega
 have q3 : (x1 == 3) = true := by simp; omega
 have HM := fun u => Lib.hid (Aifo.check_any u x0 x13 x14 x15)
 rw [h.2.1.2] at HM
 obtain rfl : x2 = true := h.2.2.1
 have HC := fun u => Lib.hid (Ref23.may_any x3 x4 x5 0 u)
 rw [Bool.eq_false_iff.2 (fun h9 => h.2.2.2 (Ref23.mayR_iff.1 h9))] at HC
 clear h
 go_enter Tryz.func49, Tryz.ntmps49
 go_wp2_with fail
 refine ((HM _).out).mono ?_
 rintro e w2 ⟨rfl, rfl⟩
 go_wp2_with fail
 refine ((HC _).out).mono ?_
 rintro e w5 ⟨rfl, u5⟩
 go_wp2_with fail
 go_ret
 exact ⟨rfl, (HU.out).trans u5 (fun _ _ h => h)⟩
theorem check_any {w : World} {c : Cf} : Calls Tryz.prog 49 #[.agg (VC c)] w fun x w' => x = .returned (.int .i64 (chkS c : Nat)) ∧ Upd Nowhere w w' := by
 unfold chkS
 by_cases h0 : c.room < 1 ∨ 4096 < c.room
 · rw [if_pos h0]; exact c_room h0
 · rw [if_neg h0]
   have hr : 1 ≤ c.room ∧ c.room ≤ 4096 := by omega
   unfold polS
   by_cases p0 : c.policy = 0 ∨ c.policy = 4
   · rw [if_pos p0, if_neg (by simp)]
     cases hc : c.credit with
     | false => exact c_zero_n ⟨hr, p0, hc⟩
     | true =>
       rw [if_pos rfl]
       by_cases hk : Credit.okc c.idle c.send c.high 0
       · rw [if_pos hk]; exact c_zero_o ⟨hr, p0, hc, hk⟩
       · rw [if_neg hk]; exact c_zero_x ⟨hr, p0, hc, hk⟩
   · rw [if_neg p0]
     by_cases p1 : c.policy = 1
     · rw [if_pos p1]
       by_cases h1 : Red.ok c.el c.eh c.em c.es
       · rw [if_pos h1, if_neg (by simp)]
         cases hc : c.credit with
         | false => exact c_one_n ⟨hr, ⟨p1, h1⟩, hc⟩
         | true =>
           rw [if_pos rfl]
           by_cases hk : Credit.okc c.idle c.send c.high 0
           · rw [if_pos hk]; exact c_one_o ⟨hr, ⟨p1, h1⟩, hc, hk⟩
           · rw [if_neg hk]; exact c_one_x ⟨hr, ⟨p1, h1⟩, hc, hk⟩
       · rw [if_neg h1, if_pos (by simp)]; exact c_one_no ⟨hr, p1, h1⟩
     · rw [if_neg p1]
       by_cases p2 : c.policy = 2
       · rw [if_pos p2]
         by_cases h1 : 1 ≤ c.li ∧ c.li ≤ 2147483648
         · rw [if_pos h1, if_neg (by simp)]
           cases hc : c.credit with
           | false => exact c_two_n ⟨hr, ⟨p2, h1⟩, hc⟩
           | true =>
             rw [if_pos rfl]
             by_cases hk : Credit.okc c.idle c.send c.high 0
             · rw [if_pos hk]; exact c_two_o ⟨hr, ⟨p2, h1⟩, hc, hk⟩
             · rw [if_neg hk]; exact c_two_x ⟨hr, ⟨p2, h1⟩, hc, hk⟩
         · rw [if_neg h1, if_pos (by simp)]; exact c_two_no ⟨hr, p2, h1⟩
       · rw [if_neg p2]
         by_cases p3 : c.policy = 3
         · rw [if_pos p3]
           have e9 : Aifo.newOf c.room c.window c.num c.den = ((if c.window < 1 ∨ 1024 < c.window then 25 else if c.den < 1 ∨ 65536 < c.den ∨ c.den ≤ c.num then 6 else 0 : Nat) : Int) := by
            unfold Aifo.newOf
            by_cases hw : c.window < 1 ∨ 1024 < c.window
            · rw [if_pos (by omega), if_pos hw]; rfl
            · rw [if_neg (by omega), if_neg hw]
              split <;> rfl
           by_cases h1 : Aifo.newOf c.room c.window c.num c.den = 0
           · have h2 := h1
             rw [e9] at h2
             rw [if_neg (by omega)]
             cases hc : c.credit with
             | false => exact c_three_n ⟨hr, ⟨p3, h1⟩, hc⟩
             | true =>
               rw [if_pos rfl]
               by_cases hk : Credit.okc c.idle c.send c.high 0
               · rw [if_pos hk]; exact c_three_o ⟨hr, ⟨p3, h1⟩, hc, hk⟩
               · rw [if_neg hk]; exact c_three_x ⟨hr, ⟨p3, h1⟩, hc, hk⟩
           · have h2 := c_three_no (w := w) ⟨hr, p3, h1⟩
             rw [e9] at h1 h2
             rw [if_pos (by omega)]
             exact h2
         · rw [if_neg p3, if_pos (by simp)]; exact c_kind ⟨hr, by omega⟩
end Go.Proofs.YtdddfmdcjjbegaaGreat.R43
namespace Go.Proofs.YtdddfmdcjjbegaaGreat.R43
open Go.RowKit Go.Proofs BigFrame
open RingW (It)
open First (Cf VC)
open Egs (TRk TRc chkS ClsAt PlnAt fstE chkE fstE_step m_box mk_off)
set_option maxHeartbeats 40000000
set_option maxRecDepth 1000000
set_option linter.unusedSimpArgs false
theorem check_size {w : World} {n : Nat} {ad ap : Option Addr} {cc cp pn pace : Nat} (h : n = 0 ∨ 8 < n) :
 Calls Tryz.prog 26 #[.agg #[.slice ad n cc, .slice ap pn cp, .int .u64 pace]] w fun x w' => x = .returned (.int .i64 29) ∧ Upd Nowhere w w' := by
 have hM := m_box (Made.start w) #[.slice ad n cc, .slice ap pn cp, .int .u64 pace] TRc
 obtain ⟨k0, k1, k2, -⟩ := cells3 (mk_off (l1 := []) hM).1
 have HM := Lib.hid hM
 clear hM
 by_cases h0 : n = 0
 · have d0 : decide ((n : Int) < 1) = true := decide_eq_true (by omega)
   have d1 : decide (n < 1) = true := decide_eq_true (by omega)
   have d2 : decide (n = 0) = true := decide_eq_true h0
   clear h h0
   go_enter Tryz.func26, Tryz.ntmps26
   go_wp2_with fail
   go_ret
   exact ⟨rfl, HM.out.upd⟩
 · have d0 : decide ((n : Int) < 1) = false := decide_eq_false (by omega)
   have d1 : decide (n < 1) = false := decide_eq_false (by omega)
   have d2 : decide (n = 0) = false := decide_eq_false h0
   have d3 : decide ((n : Int) > 8) = true := decide_eq_true (by omega)
   have d4 : decide ((8 : Int) < (n : Int)) = true := decide_eq_true (by omega)
   have d5 : decide (8 < n) = true := decide_eq_true (by omega)
   clear h h0
   go_enter Tryz.func26, Tryz.ntmps26
   go_wp2_with fail
   go_ret
   exact ⟨rfl, HM.out.upd⟩
theorem check_pace {w : World} {n : Nat} {ad ap : Option Addr} {cc cp pn pace : Nat} (h1 : 1 ≤ n) (h2 : n ≤ 8) (hp : pace < 1 ∨ 65536 < pace) :
 Calls Tryz.prog 26 #[.agg #[.slice ad n cc, .slice ap pn cp, .int .u64 pace]] w fun x w' => x = .returned (.int .i64 27) ∧ Upd Nowhere w w' := by
 have hM := m_box (Made.start w) #[.slice ad n cc, .slice ap pn cp, .int .u64 pace] TRc
 obtain ⟨k0, k1, k2, -⟩ := cells3 (mk_off (l1 := []) hM).1
 have HM := Lib.hid hM
 have d0 : decide ((n : Int) < 1) = false := decide_eq_false (by omega)
 have d1 : decide (n < 1) = false := decide_eq_false (by omega)
 have d2 : decide (n = 0) = false := decide_eq_false (by omega)
 have d3 : decide ((n : Int) > 8) = false := decide_eq_false (by omega)
 have d4 : decide ((8 : Int) < (n : Int)) = false := decide_eq_false (by omega)
 have d5 : decide (8 < n) = false := decide_eq_false (by omega)
 clear hM h1 h2
 by_cases h0 : pace < 1
 · have e0 : decide ((pace : Int) < 1) = true := decide_eq_true (by omega)
   have e1 : decide (pace < 1) = true := decide_eq_true (by omega)
   have e2 : decide (pace = 0) = true := decide_eq_true (by omega)
   clear hp h0
   go_enter Tryz.func26, Tryz.ntmps26
   go_wp2_with fail
   go_ret
   exact ⟨rfl, HM.out.upd⟩
 · have e0 : decide ((pace : Int) < 1) = false := decide_eq_false (by omega)
   have e1 : decide (pace < 1) = false := decide_eq_false (by omega)
   have e2 : decide (pace = 0) = false := decide_eq_false (by omega)
   have e3 : decide ((pace : Int) > 65536) = true := decide_eq_true (by omega)
   have e4 : decide ((65536 : Int) < (pace : Int)) = true := decide_eq_true (by omega)
   have e5 : decide (65536 < pace) = true := decide_eq_true (by omega)
   clear hp h0
   go_enter Tryz.func26, Tryz.ntmps26
   go_wp2_with fail
   go_ret
   exact ⟨rfl, HM.out.upd⟩
theorem check_run {w : World} {cs : List Cf} {ad ap : Option Addr} {cc cp pace : Nat} {pl : List (Nat × Nat)} (hC : ClsAt w ad cs) (hP : PlnAt w ap pl) (h1 : 1 ≤ cs.length) (h2 : cs.length ≤ 8) (hp1 : 1 ≤ pace) (hp2 : pace ≤ 65536) (hpl : pl.length ≤ 70) :
 Calls Tryz.prog 26 #[.agg #[.slice ad cs.length cc, .slice ap pl.length cp, .int .u64 pace]] w fun x w' => x = .returned (.int .i64 (chkE cs pl pace : Nat)) ∧ Upd Nowhere w w' := by
 have hM := m_box (Made.start w) #[.slice ad cs.length cc, .slice ap pl.length cp, .int .u64 pace] TRc
 have hch : chkE cs pl pace = if 0 < pl.length ∧ Plan.ok pl = false then 6 else fstE cs := by unfold chkE; rw [if_neg (by omega), if_neg (by omega)]
 obtain ⟨X, hX⟩ : ∃ X, chkE cs pl pace = X := ⟨_, rfl⟩
 rw [hX] at hch ⊢
 obtain ⟨n, hn⟩ : ∃ n, cs.length = n := ⟨_, rfl⟩
 obtain ⟨m, hm⟩ : ∃ m, pl.length = m := ⟨_, rfl⟩
 have HPM : Hid (0 < m → ∃ g o, ap = some ⟨g, o, none⟩ ∧ ∀ u, Upd Nowhere w u → Calls Tryz.prog 48 #[.slice (some ⟨g, o, none⟩) m cp] u fun e w' => e = .returned (.bool (Plan.ok pl)) ∧ u = w') := Lib.hid (fun h0 => by
  obtain ⟨g, o, hap, hg, hA⟩ := hP (by omega)
  refine ⟨g, o, hap, fun u hu => ?_⟩
  have := Ref22.may_any (c := cp) (hA.old hu) (by omega)
  rw [hm] at this
  exact this)
 rw [hn, hm] at hM ⊢
 rw [hn] at h1 h2
 obtain ⟨k0, k1, k2, -⟩ := cells3 (mk_off (l1 := []) hM).1
 have HM := Lib.hid hM
 have HC := Lib.hid (hC.old hM.upd)
 have HN := Lib.hid hn
 rw [hm] at hch
 have HCH := Lib.hid hch
 have d0 : decide ((n : Int) < 1) = false := decide_eq_false (by omega)
 have d1 : decide (n < 1) = false := decide_eq_false (by omega)
 have d2 : decide (n = 0) = false := decide_eq_false (by omega)
 have d3 : decide ((n : Int) > 8) = false := decide_eq_false (by omega)
 have d4 : decide ((8 : Int) < (n : Int)) = false := decide_eq_false (by omega)
 have d5 : decide (8 < n) = false := decide_eq_false (by omega)
 have e0 : decide ((pace : Int) < 1) = false := decide_eq_false (by omega)
 have e1 : decide (pace < 1) = false := decide_eq_false (by omega)
 have e2 : decide (pace = 0) = false := decide_eq_false (by omega)
 have e3 : decide ((pace : Int) > 65536) = false := decide_eq_false (by omega)
 have e4 : decide ((65536 : Int) < (pace : Int)) = false := decide_eq_false (by omega)
 have e5 : decide (65536 < pace) = false := decide_eq_false (by omega)
 have hn8 : n ≤ 8 := h2
 clear hX hC hP h1 hp1 hp2 hn hm hM hch h2 hpl
 go_enter Tryz.func26, Tryz.ntmps26
 go_upto_region 5 with fail
 generalize w.alloc (.cells #[.slice ad n cc, .slice ap m cp, .int .u64 pace] TRc) = w1 at *
 generalize w.heap.size = BX at *
 obtain ⟨B, hB⟩ : ∃ B, decide (0 < m ∧ Plan.ok pl = false) = B := ⟨_, rfl⟩
 have HB := Lib.hid hB
 clear hB
 go_cut [32] (fun v32 wc => v32 = .bool B ∧ w1 = wc)
 case first =>
  by_cases hm0 : m = 0
  · have f1 : decide ((m : Int) > 0) = false := decide_eq_false (by omega)
    have f2 : decide ((0 : Int) < (m : Int)) = false := decide_eq_false (by omega)
    have f3 : decide (0 < m) = false := decide_eq_false (by omega)
    obtain rfl : B = false := HB.out.symm.trans (decide_eq_false (by omega))
    clear hm0
    go_wp2_with fail
    go_meet
    exact ⟨rfl, rfl⟩
  · have f1 : decide ((m : Int) > 0) = true := decide_eq_true (by omega)
    have f2 : decide ((0 : Int) < (m : Int)) = true := decide_eq_true (by omega)
    have f3 : decide (0 < m) = true := decide_eq_true (by omega)
    obtain ⟨g, o, rfl, hcall⟩ := HPM.out (by omega)
    have HCA := Lib.hid (hcall w1 HM.out.upd)
    obtain ⟨okb, hok⟩ : ∃ b, Plan.ok pl = b := ⟨_, rfl⟩
    rw [hok] at HCA
    have f4 : decide (0 < m ∧ okb = false) = !okb := by cases okb <;> simp <;> omega
    obtain rfl : B = !okb := by rw [← HB.out, hok, f4]
    clear hm0 hcall hok f4
    go_wp2_with fail
    refine (HCA.out).mono ?_
    rintro e w' ⟨rfl, rfl⟩
    cases okb with
    | true =>
      go_wp2_with fail
      go_meet
      exact ⟨rfl, rfl⟩
    | false =>
      go_wp2_with fail
      go_meet
      exact ⟨rfl, rfl⟩
 case rest =>
  obtain ⟨rfl, rfl⟩ := hcut
  cases B with
  | true =>
    have hb := of_decide_eq_true HB.out
    have hX := HCH.out
    rw [if_pos hb] at hX
    subst hX
    clear hb
    go_wp2_with fail
    go_ret
    exact ⟨rfl, HM.out.upd⟩
  | false =>
    have hb := of_decide_eq_false HB.out
    have hX := HCH.out
    rw [if_neg hb] at hX
    have HX := Lib.hid hX
    clear hb hX
    go_upto_region 8 with fail
    go_loopg [3, 4] (n + 1) (fun gk v3 _ wr => ∃ (i : Nat), n - i < gk ∧ i ≤ n ∧ v3 = .int .i64 i ∧ Hid (Made w wr [blkC BX #[.slice ad n cc, .slice ap m cp, .int .u64 pace] TRc]) ∧ Upd Nowhere w1 wr ∧ Hid (X = fstE (cs.drop i)))
    case atStart => exact ⟨0, by omega, Nat.zero_le _, rfl, HM, Upd.refl _ _, HX⟩
    case round =>
     obtain ⟨i, hgk, hin, rfl, HMr, hur, HRi⟩ := hrel
     obtain ⟨wB, rfl⟩ : ∃ x, x = wr := ⟨_, rfl⟩
     have HGK := Lib.hid hgk
     have HUR := Lib.hid hur
     clear hgk hur HX HM k0 k1 k2
     obtain ⟨b0, b1, b2, -⟩ := cells3 (mk_off (l1 := []) HMr.out).1
     rcases Nat.lt_or_ge i n with hlt | hge
     · obtain ⟨x, hx⟩ : ∃ x, cs[i]? = some x := ⟨cs[i]'(by have := HN.out; omega), by simp⟩
       have hst := fstE_step hx
       obtain ⟨g, o, rfl, m0, m1, m2, m3, m4, m5, m6, m7, m8, m9, m10, m11, m12, m13, m14, m15⟩ := (HC.out.old HUR.out).cells hx
       have HK := fun u => Lib.hid (check_any (w := u) (c := x))
       obtain ⟨r, hr⟩ : ∃ r, chkS x = r := ⟨_, rfl⟩
       rw [hr] at HK hst
       rw [← HRi.out] at hst
       have HST := Lib.hid hst
       have hI : (i : Int) < n := by omega
       clear hx hst hr
       go_wp2_with fail
       refine ((HK _).out).mono ?_
       rintro y w3 ⟨rfl, u3⟩
       have HM3 := Lib.hid (HMr.out.old u3)
       have HU3 := Lib.hid (HUR.out.trans u3 (fun _ _ h => h))
       clear m0 m1 m2 m3 m4 m5 m6 m7 m8 m9 m10 m11 m12 m13 m14 m15 u3 HK b0 b1 b2
       by_cases hr0 : r = 0
       · subst hr0
         go_wp2_with fail
         go_roundg (n - i)
         case rel => exact ⟨i + 1, by omega, by omega, by first | rfl | go_num, HM3, HU3.out, Lib.hid (by have := HST.out; simpa using this)⟩
         case measure => have := HGK.out; omega
       · have dr : ((r : Int) != 0) = true := by simp; omega
         obtain rfl : X = r := by have := HST.out; rw [if_neg hr0] at this; exact this
         clear hr0
         go_wp2_with fail
         go_ret
         exact ⟨rfl, HM3.out.upd⟩
     · obtain rfl : i = n := by omega
       have dI : decide ((i : Int) < i) = false := by simp
       obtain rfl : X = 0 := by
        have := HRi.out
        rw [List.drop_eq_nil_of_le (by have := HN.out; omega)] at this
        exact this
       go_wp2_with fail
       go_ret
       exact ⟨rfl, HMr.out.upd⟩
theorem check_all {w : World} {cs : List Cf} {ad ap : Option Addr} {cc cp pace : Nat} {pl : List (Nat × Nat)} (hC : ClsAt w ad cs) (hP : PlnAt w ap pl) (hpl : pl.length ≤ 70) :
 Calls Tryz.prog 26 #[.agg #[.slice ad cs.length cc, .slice ap pl.length cp, .int .u64 pace]] w fun x w' => x = .returned (.int .i64 (chkE cs pl pace : Nat)) ∧ Upd Nowhere w w' := by
 by_cases h1 : cs.length = 0 ∨ 8 < cs.length
 · have e : chkE cs pl pace = 29 := by unfold chkE; rw [if_pos h1]
   rw [e]
   exact check_size h1
 · by_cases h2 : pace < 1 ∨ 65536 < pace
   · have e : chkE cs pl pace = 27 := by unfold chkE; rw [if_neg h1, if_pos h2]
     rw [e]
     exact check_pace (by omega) (by omega) h2
   · exact check_run hC hP (by omega) (by omega) (by omega) (by omega) hpl
end Go.Proofs.YtdddfmdcjjbegaaGreat.R43

