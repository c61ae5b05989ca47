/- Codel3, one behind the other. -/
import Derived.Test.YtdddfmdcjjbegaaGreatMeCo
import Derived.Deep.RegionWith
namespace Go.Proofs.YtdddfmdcjjbegaaGreat.Codel
open Go.RowKit Go.Proofs BigFrame
open Wide (Gives)
open Bits (sat_add wrapN)
set_option maxHeartbeats 2000000
set_option maxRecDepth 100000
/-- A callee's contract, where cells are held, and a mark of one. -/
theorem keepF {P : Program} {f : FuncId} {args : Array Value} {w B : World} {V : Value} {a0 a1 a2 : Addr} {v0 v1 v2 : Value} (h : Calls P f args w fun e w' => e = .returned V ∧ Upd Nowhere w w')
 (hS : Upd Nowhere B w ∧ w.cell? a0 = some v0 ∧ w.cell? a1 = some v1 ∧ w.cell? a2 = some v2 ∧ w.frozen? a0 = false) :
 Calls P f args w fun e w' => e = .returned V ∧ Upd Nowhere B w' ∧ w'.cell? a0 = some v0 ∧ w'.cell? a1 = some v1 ∧ w'.cell? a2 = some v2 ∧ w'.frozen? a0 = false := by
 obtain ⟨hu, h0, h1, h2, hf⟩ := hS
 exact h.mono fun e w' ⟨x, y⟩ => ⟨x, hu.trans y (fun _ _ h => h), cell_old y h0, cell_old y h1, cell_old y h2, (World.frozen?_of_block (w := w) (y.block a0.block (cell_lt h0) id)).trans hf⟩
theorem r_no (T I X F N K L now wt bh : Nat) (D : Bool) (h : ¬(1 ≤ I ∧ I ≤ 2147483648)) (w : World) : Calls Tryz.prog 92 #[.agg #[.int .u64 T, .int .u64 I, .int .u64 X], .agg #[.int .u64 F, .int .u64 N, .int .u64 K, .int .u64 L, .bool D], .int .u64 now, .int .u64 wt, .int .u64 bh] w fun e w' => Gives w (.tuple #[.agg #[.int .u64 F, .int .u64 N, .int .u64 K, .int .u64 L, .bool D], .bool false]) e w' := by
 have H1 := fun u => Lib.hid (may_no T I X h u)
 clear h
 go_enter Tryz.func92, Tryz.ntmps92
 go_wp2_with fail
 refine ((H1 _).out).mono ?_
 rintro e w1 ⟨rfl, u1⟩
 have hB_c1 : Blk w1 (w.heap.size) #[.int .u64 T, .int .u64 I, .int .u64 X] 56 := (((Blk.new _ _ _).alloc _).alloc _).kept u1 id
 have hB_s1 : Blk w1 (w.heap.size + 1) #[.int .u64 F, .int .u64 N, .int .u64 K, .int .u64 L, .bool D] 139 := ((Blk.new2 _ _ _ _).alloc _).kept u1 id
 have hB_r1 : Blk w1 (w.heap.size + 1 + 1) #[.int .u64 0, .int .u64 0, .int .u64 0, .int .u64 0, .bool false] 139 := (Blk.new3 _ _ _ _ _).kept u1 id
 have hU1 : Upd Nowhere w w1 := ((((Upd.refl _ _).alloc _).alloc _).alloc _).trans u1 (fun _ _ h => h)
 obtain ⟨c_c0, c_c1, c_c2, z_c0, z_c1, z_c2⟩ := cells3 (hB_c1)
 obtain ⟨c_s0, c_s1, c_s2, c_s3, c_s4, z_s0, z_s1, z_s2, z_s3, z_s4⟩ := cells5 (hB_s1)
 obtain ⟨c_r0, c_r1, c_r2, c_r3, c_r4, z_r0, z_r1, z_r2, z_r3, z_r4⟩ := cells5 (hB_r1)
 have l_c1 := hB_c1.lt
 have l_s1 := hB_s1.lt
 have l_r1 := hB_r1.lt
 go_wp2_with fail
 exact bodyPost_ret (v := .tuple #[.agg #[.int .u64 F, .int .u64 N, .int .u64 K, .int .u64 L, .bool D], .bool false]) (by simp [results, Tryz.results92, go_sem, c_r0, c_r1, c_r2, c_r3, c_r4]) rfl ⟨rfl, by repeat (first | with_reducible exact hU1 | refine Upd.setNew ?_ (by first | (simp; done) | (dsimp only; omega)) _ | refine Upd.drewN ?_ _ | refine Upd.drew ?_ | refine Upd.alloc ?_ _)⟩
theorem r_late_true (T I X F N K L now wt bh : Nat) (h1 : 1 ≤ I) (h2 : I ≤ 2147483648) (h : wt < T ∨ bh ≤ X) (w : World) : Calls Tryz.prog 92 #[.agg #[.int .u64 T, .int .u64 I, .int .u64 X], .agg #[.int .u64 F, .int .u64 N, .int .u64 K, .int .u64 L, .bool true], .int .u64 now, .int .u64 wt, .int .u64 bh] w fun e w' => Gives w (.tuple #[.agg #[.int .u64 0, .int .u64 N, .int .u64 K, .int .u64 L, .bool false], .bool false]) e w' := by
 have H1 := fun u => Lib.hid (may_ok T I X h1 h2 u)
 clear h1 h2
 rcases Nat.lt_or_ge wt T with ha | ha
 · have ta : decide (T ≤ wt) = false := decide_eq_false (by omega)
   clear h ha
   go_enter Tryz.func92, Tryz.ntmps92
   go_wp2_with fail
   refine ((H1 _).out).mono ?_
   rintro e w1 ⟨rfl, u1⟩
   have hB_c1 : Blk w1 (w.heap.size) #[.int .u64 T, .int .u64 I, .int .u64 X] 56 := (((Blk.new _ _ _).alloc _).alloc _).kept u1 id
   have hB_s1 : Blk w1 (w.heap.size + 1) #[.int .u64 F, .int .u64 N, .int .u64 K, .int .u64 L, .bool true] 139 := ((Blk.new2 _ _ _ _).alloc _).kept u1 id
   have hB_r1 : Blk w1 (w.heap.size + 1 + 1) #[.int .u64 0, .int .u64 0, .int .u64 0, .int .u64 0, .bool false] 139 := (Blk.new3 _ _ _ _ _).kept u1 id
   have hU1 : Upd Nowhere w w1 := ((((Upd.refl _ _).alloc _).alloc _).alloc _).trans u1 (fun _ _ h => h)
   obtain ⟨c_c0, c_c1, c_c2, z_c0, z_c1, z_c2⟩ := cells3 (hB_c1)
   obtain ⟨c_s0, c_s1, c_s2, c_s3, c_s4, z_s0, z_s1, z_s2, z_s3, z_s4⟩ := cells5 (hB_s1)
   obtain ⟨c_r0, c_r1, c_r2, c_r3, c_r4, z_r0, z_r1, z_r2, z_r3, z_r4⟩ := cells5 (hB_r1)
   have l_c1 := hB_c1.lt
   have l_s1 := hB_s1.lt
   have l_r1 := hB_r1.lt
   go_wp2_with fail
   exact bodyPost_ret (v := .tuple #[.agg #[.int .u64 0, .int .u64 N, .int .u64 K, .int .u64 L, .bool false], .bool false]) (by simp [results, Tryz.results92, go_sem, c_r0, c_r1, c_r2, c_r3, c_r4]) rfl ⟨rfl, by repeat (first | with_reducible exact hU1 | refine Upd.setNew ?_ (by first | (simp; done) | (dsimp only; omega)) _ | refine Upd.drewN ?_ _ | refine Upd.drew ?_ | refine Upd.alloc ?_ _)⟩
 · have ta : decide (T ≤ wt) = true := decide_eq_true (by omega)
   have tb : decide (X < bh) = false := decide_eq_false (by omega)
   clear h ha
   go_enter Tryz.func92, Tryz.ntmps92
   go_wp2_with fail
   refine ((H1 _).out).mono ?_
   rintro e w1 ⟨rfl, u1⟩
   have hB_c1 : Blk w1 (w.heap.size) #[.int .u64 T, .int .u64 I, .int .u64 X] 56 := (((Blk.new _ _ _).alloc _).alloc _).kept u1 id
   have hB_s1 : Blk w1 (w.heap.size + 1) #[.int .u64 F, .int .u64 N, .int .u64 K, .int .u64 L, .bool true] 139 := ((Blk.new2 _ _ _ _).alloc _).kept u1 id
   have hB_r1 : Blk w1 (w.heap.size + 1 + 1) #[.int .u64 0, .int .u64 0, .int .u64 0, .int .u64 0, .bool false] 139 := (Blk.new3 _ _ _ _ _).kept u1 id
   have hU1 : Upd Nowhere w w1 := ((((Upd.refl _ _).alloc _).alloc _).alloc _).trans u1 (fun _ _ h => h)
   obtain ⟨c_c0, c_c1, c_c2, z_c0, z_c1, z_c2⟩ := cells3 (hB_c1)
   obtain ⟨c_s0, c_s1, c_s2, c_s3, c_s4, z_s0, z_s1, z_s2, z_s3, z_s4⟩ := cells5 (hB_s1)
   obtain ⟨c_r0, c_r1, c_r2, c_r3, c_r4, z_r0, z_r1, z_r2, z_r3, z_r4⟩ := cells5 (hB_r1)
   have l_c1 := hB_c1.lt
   have l_s1 := hB_s1.lt
   have l_r1 := hB_r1.lt
   go_wp2_with fail
   exact bodyPost_ret (v := .tuple #[.agg #[.int .u64 0, .int .u64 N, .int .u64 K, .int .u64 L, .bool false], .bool false]) (by simp [results, Tryz.results92, go_sem, c_r0, c_r1, c_r2, c_r3, c_r4]) rfl ⟨rfl, by repeat (first | with_reducible exact hU1 | refine Upd.setNew ?_ (by first | (simp; done) | (dsimp only; omega)) _ | refine Upd.drewN ?_ _ | refine Upd.drew ?_ | refine Upd.alloc ?_ _)⟩
theorem r_new_true (T I X N K L now wt bh : Nat) (h1 : 1 ≤ I) (h2 : I ≤ 2147483648) (hn : now ≤ 18446744073709551615) (ha : T ≤ wt) (hb : X < bh) (w : World) : Calls Tryz.prog 92 #[.agg #[.int .u64 T, .int .u64 I, .int .u64 X], .agg #[.int .u64 0, .int .u64 N, .int .u64 K, .int .u64 L, .bool true], .int .u64 now, .int .u64 wt, .int .u64 bh] w fun e w' => Gives w (.tuple #[.agg #[.int .u64 (min (now + I) 18446744073709551615 : Nat), .int .u64 N, .int .u64 K, .int .u64 L, .bool false], .bool false]) e w' := by
 have H1 := fun u => Lib.hid (may_ok T I X h1 h2 u)
 have H2 := fun u => Lib.hid (Sat.ref_add now I hn (by omega) u)
 generalize min (now + I) 18446744073709551615 = y at *
 have ta : decide (T ≤ wt) = true := decide_eq_true ha
 have tb : decide (X < bh) = true := decide_eq_true hb
 clear h1 h2 hn ha hb
 go_enter Tryz.func92, Tryz.ntmps92
 go_wp2_with fail
 refine ((H1 _).out).mono ?_
 rintro e w1 ⟨rfl, u1⟩
 have hB_c1 : Blk w1 (w.heap.size) #[.int .u64 T, .int .u64 I, .int .u64 X] 56 := (((Blk.new _ _ _).alloc _).alloc _).kept u1 id
 have hB_s1 : Blk w1 (w.heap.size + 1) #[.int .u64 0, .int .u64 N, .int .u64 K, .int .u64 L, .bool true] 139 := ((Blk.new2 _ _ _ _).alloc _).kept u1 id
 have hB_r1 : Blk w1 (w.heap.size + 1 + 1) #[.int .u64 0, .int .u64 0, .int .u64 0, .int .u64 0, .bool false] 139 := (Blk.new3 _ _ _ _ _).kept u1 id
 have hU1 : Upd Nowhere w w1 := ((((Upd.refl _ _).alloc _).alloc _).alloc _).trans u1 (fun _ _ h => h)
 obtain ⟨c_c0, c_c1, c_c2, z_c0, z_c1, z_c2⟩ := cells3 (hB_c1)
 obtain ⟨c_s0, c_s1, c_s2, c_s3, c_s4, z_s0, z_s1, z_s2, z_s3, z_s4⟩ := cells5 (hB_s1)
 obtain ⟨c_r0, c_r1, c_r2, c_r3, c_r4, z_r0, z_r1, z_r2, z_r3, z_r4⟩ := cells5 (hB_r1)
 have l_c1 := hB_c1.lt
 have l_s1 := hB_s1.lt
 have l_r1 := hB_r1.lt
 go_wp2_with fail
 refine ((H2 _).out).mono ?_
 rintro e w2 ⟨rfl, u2⟩
 clear c_c0 c_c1 c_c2 z_c0 z_c1 z_c2
 clear c_s0 c_s1 c_s2 c_s3 c_s4 z_s0 z_s1 z_s2 z_s3 z_s4
 clear c_r0 c_r1 c_r2 c_r3 c_r4 z_r0 z_r1 z_r2 z_r3 z_r4
 have hB_c2 : Blk w2 (w.heap.size) #[.int .u64 T, .int .u64 I, .int .u64 X] 56 := (hB_c1).kept u2 id
 have hB_s2 : Blk w2 (w.heap.size + 1) #[.int .u64 0, .int .u64 N, .int .u64 K, .int .u64 L, .bool true] 139 := (hB_s1).kept u2 id
 have hB_r2 : Blk w2 (w.heap.size + 1 + 1) #[.int .u64 0, .int .u64 0, .int .u64 0, .int .u64 0, .bool false] 139 := (hB_r1).kept u2 id
 have hU2 : Upd Nowhere w w2 := (hU1).trans u2 (fun _ _ h => h)
 clear u1
 obtain ⟨c_c0, c_c1, c_c2, z_c0, z_c1, z_c2⟩ := cells3 (hB_c2)
 obtain ⟨c_s0, c_s1, c_s2, c_s3, c_s4, z_s0, z_s1, z_s2, z_s3, z_s4⟩ := cells5 (hB_s2)
 obtain ⟨c_r0, c_r1, c_r2, c_r3, c_r4, z_r0, z_r1, z_r2, z_r3, z_r4⟩ := cells5 (hB_r2)
 have l_c2 := hB_c2.lt
 have l_s2 := hB_s2.lt
 have l_r2 := hB_r2.lt
 clear l_c1 l_s1 l_r1
 go_wp2_with fail
 exact bodyPost_ret (v := .tuple #[.agg #[.int .u64 y, .int .u64 N, .int .u64 K, .int .u64 L, .bool false], .bool false]) (by simp [results, Tryz.results92, go_sem, c_r0, c_r1, c_r2, c_r3, c_r4]) rfl ⟨rfl, by repeat (first | with_reducible exact hU2 | refine Upd.setNew ?_ (by first | (simp; done) | (dsimp only; omega)) _ | refine Upd.drewN ?_ _ | refine Upd.drew ?_ | refine Upd.alloc ?_ _)⟩
theorem r_wait_true (T I X F N K L now wt bh : Nat) (h1 : 1 ≤ I) (h2 : I ≤ 2147483648) (ha : T ≤ wt) (hb : X < bh) (hF : 0 < F) (hnF : now < F) (w : World) : Calls Tryz.prog 92 #[.agg #[.int .u64 T, .int .u64 I, .int .u64 X], .agg #[.int .u64 F, .int .u64 N, .int .u64 K, .int .u64 L, .bool true], .int .u64 now, .int .u64 wt, .int .u64 bh] w fun e w' => Gives w (.tuple #[.agg #[.int .u64 F, .int .u64 N, .int .u64 K, .int .u64 L, .bool false], .bool false]) e w' := by
 have H1 := fun u => Lib.hid (may_ok T I X h1 h2 u)
 have ta : decide (T ≤ wt) = true := decide_eq_true ha
 have tb : decide (X < bh) = true := decide_eq_true hb
 have tc : ((F : Int) == 0) = false := by simp; omega
 have td : ((F : Int) != 0) = true := by simp; omega
 have te : decide (F ≤ now) = false := decide_eq_false (by omega)
 clear h1 h2 ha hb hF hnF
 go_enter Tryz.func92, Tryz.ntmps92
 go_wp2_with fail
 refine ((H1 _).out).mono ?_
 rintro e w1 ⟨rfl, u1⟩
 have hB_c1 : Blk w1 (w.heap.size) #[.int .u64 T, .int .u64 I, .int .u64 X] 56 := (((Blk.new _ _ _).alloc _).alloc _).kept u1 id
 have hB_s1 : Blk w1 (w.heap.size + 1) #[.int .u64 F, .int .u64 N, .int .u64 K, .int .u64 L, .bool true] 139 := ((Blk.new2 _ _ _ _).alloc _).kept u1 id
 have hB_r1 : Blk w1 (w.heap.size + 1 + 1) #[.int .u64 0, .int .u64 0, .int .u64 0, .int .u64 0, .bool false] 139 := (Blk.new3 _ _ _ _ _).kept u1 id
 have hU1 : Upd Nowhere w w1 := ((((Upd.refl _ _).alloc _).alloc _).alloc _).trans u1 (fun _ _ h => h)
 obtain ⟨c_c0, c_c1, c_c2, z_c0, z_c1, z_c2⟩ := cells3 (hB_c1)
 obtain ⟨c_s0, c_s1, c_s2, c_s3, c_s4, z_s0, z_s1, z_s2, z_s3, z_s4⟩ := cells5 (hB_s1)
 obtain ⟨c_r0, c_r1, c_r2, c_r3, c_r4, z_r0, z_r1, z_r2, z_r3, z_r4⟩ := cells5 (hB_r1)
 have l_c1 := hB_c1.lt
 have l_s1 := hB_s1.lt
 have l_r1 := hB_r1.lt
 go_wp2_with fail
 exact bodyPost_ret (v := .tuple #[.agg #[.int .u64 F, .int .u64 N, .int .u64 K, .int .u64 L, .bool false], .bool false]) (by simp [results, Tryz.results92, go_sem, c_r0, c_r1, c_r2, c_r3, c_r4]) rfl ⟨rfl, by repeat (first | with_reducible exact hU1 | refine Upd.setNew ?_ (by first | (simp; done) | (dsimp only; omega)) _ | refine Upd.drewN ?_ _ | refine Upd.drew ?_ | refine Upd.alloc ?_ _)⟩
theorem r_late_false (T I X F N K L now wt bh : Nat) (h1 : 1 ≤ I) (h2 : I ≤ 2147483648) (h : wt < T ∨ bh ≤ X) (w : World) : Calls Tryz.prog 92 #[.agg #[.int .u64 T, .int .u64 I, .int .u64 X], .agg #[.int .u64 F, .int .u64 N, .int .u64 K, .int .u64 L, .bool false], .int .u64 now, .int .u64 wt, .int .u64 bh] w fun e w' => Gives w (.tuple #[.agg #[.int .u64 0, .int .u64 N, .int .u64 K, .int .u64 L, .bool false], .bool false]) e w' := by
 have H1 := fun u => Lib.hid (may_ok T I X h1 h2 u)
 clear h1 h2
 rcases Nat.lt_or_ge wt T with ha | ha
 · have ta : decide (T ≤ wt) = false := decide_eq_false (by omega)
   clear h ha
   go_enter Tryz.func92, Tryz.ntmps92
   go_wp2_with fail
   refine ((H1 _).out).mono ?_
   rintro e w1 ⟨rfl, u1⟩
   have hB_c1 : Blk w1 (w.heap.size) #[.int .u64 T, .int .u64 I, .int .u64 X] 56 := (((Blk.new _ _ _).alloc _).alloc _).kept u1 id
   have hB_s1 : Blk w1 (w.heap.size + 1) #[.int .u64 F, .int .u64 N, .int .u64 K, .int .u64 L, .bool false] 139 := ((Blk.new2 _ _ _ _).alloc _).kept u1 id
   have hB_r1 : Blk w1 (w.heap.size + 1 + 1) #[.int .u64 0, .int .u64 0, .int .u64 0, .int .u64 0, .bool false] 139 := (Blk.new3 _ _ _ _ _).kept u1 id
   have hU1 : Upd Nowhere w w1 := ((((Upd.refl _ _).alloc _).alloc _).alloc _).trans u1 (fun _ _ h => h)
   obtain ⟨c_c0, c_c1, c_c2, z_c0, z_c1, z_c2⟩ := cells3 (hB_c1)
   obtain ⟨c_s0, c_s1, c_s2, c_s3, c_s4, z_s0, z_s1, z_s2, z_s3, z_s4⟩ := cells5 (hB_s1)
   obtain ⟨c_r0, c_r1, c_r2, c_r3, c_r4, z_r0, z_r1, z_r2, z_r3, z_r4⟩ := cells5 (hB_r1)
   have l_c1 := hB_c1.lt
   have l_s1 := hB_s1.lt
   have l_r1 := hB_r1.lt
   go_wp2_with fail
   exact bodyPost_ret (v := .tuple #[.agg #[.int .u64 0, .int .u64 N, .int .u64 K, .int .u64 L, .bool false], .bool false]) (by simp [results, Tryz.results92, go_sem, c_r0, c_r1, c_r2, c_r3, c_r4]) rfl ⟨rfl, by repeat (first | with_reducible exact hU1 | refine Upd.setNew ?_ (by first | (simp; done) | (dsimp only; omega)) _ | refine Upd.drewN ?_ _ | refine Upd.drew ?_ | refine Upd.alloc ?_ _)⟩
 · have ta : decide (T ≤ wt) = true := decide_eq_true (by omega)
   have tb : decide (X < bh) = false := decide_eq_false (by omega)
   clear h ha
   go_enter Tryz.func92, Tryz.ntmps92
   go_wp2_with fail
   refine ((H1 _).out).mono ?_
   rintro e w1 ⟨rfl, u1⟩
   have hB_c1 : Blk w1 (w.heap.size) #[.int .u64 T, .int .u64 I, .int .u64 X] 56 := (((Blk.new _ _ _).alloc _).alloc _).kept u1 id
   have hB_s1 : Blk w1 (w.heap.size + 1) #[.int .u64 F, .int .u64 N, .int .u64 K, .int .u64 L, .bool false] 139 := ((Blk.new2 _ _ _ _).alloc _).kept u1 id
   have hB_r1 : Blk w1 (w.heap.size + 1 + 1) #[.int .u64 0, .int .u64 0, .int .u64 0, .int .u64 0, .bool false] 139 := (Blk.new3 _ _ _ _ _).kept u1 id
   have hU1 : Upd Nowhere w w1 := ((((Upd.refl _ _).alloc _).alloc _).alloc _).trans u1 (fun _ _ h => h)
   obtain ⟨c_c0, c_c1, c_c2, z_c0, z_c1, z_c2⟩ := cells3 (hB_c1)
   obtain ⟨c_s0, c_s1, c_s2, c_s3, c_s4, z_s0, z_s1, z_s2, z_s3, z_s4⟩ := cells5 (hB_s1)
   obtain ⟨c_r0, c_r1, c_r2, c_r3, c_r4, z_r0, z_r1, z_r2, z_r3, z_r4⟩ := cells5 (hB_r1)
   have l_c1 := hB_c1.lt
   have l_s1 := hB_s1.lt
   have l_r1 := hB_r1.lt
   go_wp2_with fail
   exact bodyPost_ret (v := .tuple #[.agg #[.int .u64 0, .int .u64 N, .int .u64 K, .int .u64 L, .bool false], .bool false]) (by simp [results, Tryz.results92, go_sem, c_r0, c_r1, c_r2, c_r3, c_r4]) rfl ⟨rfl, by repeat (first | with_reducible exact hU1 | refine Upd.setNew ?_ (by first | (simp; done) | (dsimp only; omega)) _ | refine Upd.drewN ?_ _ | refine Upd.drew ?_ | refine Upd.alloc ?_ _)⟩
theorem r_new_false (T I X N K L now wt bh : Nat) (h1 : 1 ≤ I) (h2 : I ≤ 2147483648) (hn : now ≤ 18446744073709551615) (ha : T ≤ wt) (hb : X < bh) (w : World) : Calls Tryz.prog 92 #[.agg #[.int .u64 T, .int .u64 I, .int .u64 X], .agg #[.int .u64 0, .int .u64 N, .int .u64 K, .int .u64 L, .bool false], .int .u64 now, .int .u64 wt, .int .u64 bh] w fun e w' => Gives w (.tuple #[.agg #[.int .u64 (min (now + I) 18446744073709551615 : Nat), .int .u64 N, .int .u64 K, .int .u64 L, .bool false], .bool false]) e w' := by
 have H1 := fun u => Lib.hid (may_ok T I X h1 h2 u)
 have H2 := fun u => Lib.hid (Sat.ref_add now I hn (by omega) u)
 generalize min (now + I) 18446744073709551615 = y at *
 have ta : decide (T ≤ wt) = true := decide_eq_true ha
 have tb : decide (X < bh) = true := decide_eq_true hb
 clear h1 h2 hn ha hb
 go_enter Tryz.func92, Tryz.ntmps92
 go_wp2_with fail
 refine ((H1 _).out).mono ?_
 rintro e w1 ⟨rfl, u1⟩
 have hB_c1 : Blk w1 (w.heap.size) #[.int .u64 T, .int .u64 I, .int .u64 X] 56 := (((Blk.new _ _ _).alloc _).alloc _).kept u1 id
 have hB_s1 : Blk w1 (w.heap.size + 1) #[.int .u64 0, .int .u64 N, .int .u64 K, .int .u64 L, .bool false] 139 := ((Blk.new2 _ _ _ _).alloc _).kept u1 id
 have hB_r1 : Blk w1 (w.heap.size + 1 + 1) #[.int .u64 0, .int .u64 0, .int .u64 0, .int .u64 0, .bool false] 139 := (Blk.new3 _ _ _ _ _).kept u1 id
 have hU1 : Upd Nowhere w w1 := ((((Upd.refl _ _).alloc _).alloc _).alloc _).trans u1 (fun _ _ h => h)
 obtain ⟨c_c0, c_c1, c_c2, z_c0, z_c1, z_c2⟩ := cells3 (hB_c1)
 obtain ⟨c_s0, c_s1, c_s2, c_s3, c_s4, z_s0, z_s1, z_s2, z_s3, z_s4⟩ := cells5 (hB_s1)
 obtain ⟨c_r0, c_r1, c_r2, c_r3, c_r4, z_r0, z_r1, z_r2, z_r3, z_r4⟩ := cells5 (hB_r1)
 have l_c1 := hB_c1.lt
 have l_s1 := hB_s1.lt
 have l_r1 := hB_r1.lt
 go_wp2_with fail
 refine ((H2 _).out).mono ?_
 rintro e w2 ⟨rfl, u2⟩
 clear c_c0 c_c1 c_c2 z_c0 z_c1 z_c2
 clear c_s0 c_s1 c_s2 c_s3 c_s4 z_s0 z_s1 z_s2 z_s3 z_s4
 clear c_r0 c_r1 c_r2 c_r3 c_r4 z_r0 z_r1 z_r2 z_r3 z_r4
 have hB_c2 : Blk w2 (w.heap.size) #[.int .u64 T, .int .u64 I, .int .u64 X] 56 := (hB_c1).kept u2 id
 have hB_s2 : Blk w2 (w.heap.size + 1) #[.int .u64 0, .int .u64 N, .int .u64 K, .int .u64 L, .bool false] 139 := (hB_s1).kept u2 id
 have hB_r2 : Blk w2 (w.heap.size + 1 + 1) #[.int .u64 0, .int .u64 0, .int .u64 0, .int .u64 0, .bool false] 139 := (hB_r1).kept u2 id
 have hU2 : Upd Nowhere w w2 := (hU1).trans u2 (fun _ _ h => h)
 clear u1
 obtain ⟨c_c0, c_c1, c_c2, z_c0, z_c1, z_c2⟩ := cells3 (hB_c2)
 obtain ⟨c_s0, c_s1, c_s2, c_s3, c_s4, z_s0, z_s1, z_s2, z_s3, z_s4⟩ := cells5 (hB_s2)
 obtain ⟨c_r0, c_r1, c_r2, c_r3, c_r4, z_r0, z_r1, z_r2, z_r3, z_r4⟩ := cells5 (hB_r2)
 have l_c2 := hB_c2.lt
 have l_s2 := hB_s2.lt
 have l_r2 := hB_r2.lt
 clear l_c1 l_s1 l_r1
 go_wp2_with fail
 exact bodyPost_ret (v := .tuple #[.agg #[.int .u64 y, .int .u64 N, .int .u64 K, .int .u64 L, .bool false], .bool false]) (by simp [results, Tryz.results92, go_sem, c_r0, c_r1, c_r2, c_r3, c_r4]) rfl ⟨rfl, by repeat (first | with_reducible exact hU2 | refine Upd.setNew ?_ (by first | (simp; done) | (dsimp only; omega)) _ | refine Upd.drewN ?_ _ | refine Upd.drew ?_ | refine Upd.alloc ?_ _)⟩
theorem r_wait_false (T I X F N K L now wt bh : Nat) (h1 : 1 ≤ I) (h2 : I ≤ 2147483648) (ha : T ≤ wt) (hb : X < bh) (hF : 0 < F) (hnF : now < F) (w : World) : Calls Tryz.prog 92 #[.agg #[.int .u64 T, .int .u64 I, .int .u64 X], .agg #[.int .u64 F, .int .u64 N, .int .u64 K, .int .u64 L, .bool false], .int .u64 now, .int .u64 wt, .int .u64 bh] w fun e w' => Gives w (.tuple #[.agg #[.int .u64 F, .int .u64 N, .int .u64 K, .int .u64 L, .bool false], .bool false]) e w' := by
 have H1 := fun u => Lib.hid (may_ok T I X h1 h2 u)
 have ta : decide (T ≤ wt) = true := decide_eq_true ha
 have tb : decide (X < bh) = true := decide_eq_true hb
 have tc : ((F : Int) == 0) = false := by simp; omega
 have td : ((F : Int) != 0) = true := by simp; omega
 have te : decide (F ≤ now) = false := decide_eq_false (by omega)
 clear h1 h2 ha hb hF hnF
 go_enter Tryz.func92, Tryz.ntmps92
 go_wp2_with fail
 refine ((H1 _).out).mono ?_
 rintro e w1 ⟨rfl, u1⟩
 have hB_c1 : Blk w1 (w.heap.size) #[.int .u64 T, .int .u64 I, .int .u64 X] 56 := (((Blk.new _ _ _).alloc _).alloc _).kept u1 id
 have hB_s1 : Blk w1 (w.heap.size + 1) #[.int .u64 F, .int .u64 N, .int .u64 K, .int .u64 L, .bool false] 139 := ((Blk.new2 _ _ _ _).alloc _).kept u1 id
 have hB_r1 : Blk w1 (w.heap.size + 1 + 1) #[.int .u64 0, .int .u64 0, .int .u64 0, .int .u64 0, .bool false] 139 := (Blk.new3 _ _ _ _ _).kept u1 id
 have hU1 : Upd Nowhere w w1 := ((((Upd.refl _ _).alloc _).alloc _).alloc _).trans u1 (fun _ _ h => h)
 obtain ⟨c_c0, c_c1, c_c2, z_c0, z_c1, z_c2⟩ := cells3 (hB_c1)
 obtain ⟨c_s0, c_s1, c_s2, c_s3, c_s4, z_s0, z_s1, z_s2, z_s3, z_s4⟩ := cells5 (hB_s1)
 obtain ⟨c_r0, c_r1, c_r2, c_r3, c_r4, z_r0, z_r1, z_r2, z_r3, z_r4⟩ := cells5 (hB_r1)
 have l_c1 := hB_c1.lt
 have l_s1 := hB_s1.lt
 have l_r1 := hB_r1.lt
 go_wp2_with fail
 exact bodyPost_ret (v := .tuple #[.agg #[.int .u64 F, .int .u64 N, .int .u64 K, .int .u64 L, .bool false], .bool false]) (by simp [results, Tryz.results92, go_sem, c_r0, c_r1, c_r2, c_r3, c_r4]) rfl ⟨rfl, by repeat (first | with_reducible exact hU1 | refine Upd.setNew ?_ (by first | (simp; done) | (dsimp only; omega)) _ | refine Upd.drewN ?_ _ | refine Upd.drew ?_ | refine Upd.alloc ?_ _)⟩
theorem r_early (T I X F N K L now wt bh : Nat) (h1 : 1 ≤ I) (h2 : I ≤ 2147483648) (ha : T ≤ wt) (hb : X < bh) (hF : 0 < F) (hnF : F ≤ now) (hN : now < N) (w : World) : Calls Tryz.prog 92 #[.agg #[.int .u64 T, .int .u64 I, .int .u64 X], .agg #[.int .u64 F, .int .u64 N, .int .u64 K, .int .u64 L, .bool true], .int .u64 now, .int .u64 wt, .int .u64 bh] w fun e w' => Gives w (.tuple #[.agg #[.int .u64 F, .int .u64 N, .int .u64 K, .int .u64 L, .bool true], .bool false]) e w' := by
 have H1 := fun u => Lib.hid (may_ok T I X h1 h2 u)
 have ta : decide (T ≤ wt) = true := decide_eq_true ha
 have tb : decide (X < bh) = true := decide_eq_true hb
 have tc : ((F : Int) == 0) = false := by simp; omega
 have td : ((F : Int) != 0) = true := by simp; omega
 have te : decide (F ≤ now) = true := decide_eq_true hnF
 have tn : decide (now < N) = true := decide_eq_true hN
 clear h1 h2 ha hb hF hnF
 go_enter Tryz.func92, Tryz.ntmps92
 go_wp2_with fail
 refine ((H1 _).out).mono ?_
 rintro e w1 ⟨rfl, u1⟩
 have hB_c1 : Blk w1 (w.heap.size) #[.int .u64 T, .int .u64 I, .int .u64 X] 56 := (((Blk.new _ _ _).alloc _).alloc _).kept u1 id
 have hB_s1 : Blk w1 (w.heap.size + 1) #[.int .u64 F, .int .u64 N, .int .u64 K, .int .u64 L, .bool true] 139 := ((Blk.new2 _ _ _ _).alloc _).kept u1 id
 have hB_r1 : Blk w1 (w.heap.size + 1 + 1) #[.int .u64 0, .int .u64 0, .int .u64 0, .int .u64 0, .bool false] 139 := (Blk.new3 _ _ _ _ _).kept u1 id
 have hU1 : Upd Nowhere w w1 := ((((Upd.refl _ _).alloc _).alloc _).alloc _).trans u1 (fun _ _ h => h)
 obtain ⟨c_c0, c_c1, c_c2, z_c0, z_c1, z_c2⟩ := cells3 (hB_c1)
 obtain ⟨c_s0, c_s1, c_s2, c_s3, c_s4, z_s0, z_s1, z_s2, z_s3, z_s4⟩ := cells5 (hB_s1)
 obtain ⟨c_r0, c_r1, c_r2, c_r3, c_r4, z_r0, z_r1, z_r2, z_r3, z_r4⟩ := cells5 (hB_r1)
 have l_c1 := hB_c1.lt
 have l_s1 := hB_s1.lt
 have l_r1 := hB_r1.lt
 go_wp2_with fail
 exact bodyPost_ret (v := .tuple #[.agg #[.int .u64 F, .int .u64 N, .int .u64 K, .int .u64 L, .bool true], .bool false]) (by simp [results, Tryz.results92, go_sem, c_r0, c_r1, c_r2, c_r3, c_r4]) rfl ⟨rfl, by repeat (first | with_reducible exact hU1 | refine Upd.setNew ?_ (by first | (simp; done) | (dsimp only; omega)) _ | refine Upd.drewN ?_ _ | refine Upd.drew ?_ | refine Upd.alloc ?_ _)⟩
end Go.Proofs.YtdddfmdcjjbegaaGreat.Codel

