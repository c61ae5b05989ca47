/- ShM11, ShM12, one behind the other. -/
import Derived.Test.YtpgpjjkeginbbaaGreatDoorMtSh8
namespace Go.Proofs.YtpgpjjkeginbbaaGreatDoor.Shm
open Go.RowKit Go.Proofs BigFrame
open Sh (Fl Cg Pk St)
open Rnk (FlsIn)
open Gt (VC TCg cgs)
set_option maxHeartbeats 40000000
set_option maxRecDepth 1000000
set_option linter.unusedSimpArgs false
/-- The example's configuration. -/
def cfS (back : Int) : Cg := ⟨2, back, 1, 2, 9, 100, 0, 10, 1, 10, [⟨1, 1, 10, 0, 50⟩, ⟨2, 1, 20, 0, 50⟩]⟩
abbrev TFl : TypeId := 99
abbrev flV : Array Value := #[.int .u32 1, .int .u64 1, .int .u64 10, .int .u64 0, .int .u64 50, .int .u32 2, .int .u64 1, .int .u64 20, .int .u64 0, .int .u64 50]
theorem fls_at {w : World} {g : Nat} (h : Blk w g flV TFl) (back : Int) : FlsIn w (some ⟨g, 0, none⟩) (cfS back).flows := fun k f hf => by
 match k, hf with
 | 0, hf => cases hf; exact ⟨g, 0, rfl, h.cellAt rfl, h.cellAt rfl, h.cellAt rfl, h.cellAt rfl, h.cellAt rfl⟩
 | 1, hf => cases hf; exact ⟨g, 0, rfl, h.cellAt rfl, h.cellAt rfl, h.cellAt rfl, h.cellAt rfl, h.cellAt rfl⟩
theorem some_any (w : World) : Calls Tryz.prog 19 #[] w fun e w' => ∃ g, e = .returned (.agg (VC (cfS 1) (.slice (some ⟨g, 0, none⟩) 2 2))) ∧ FlsIn w' (some ⟨g, 0, none⟩) (cfS 1).flows ∧ Upd Nowhere w w' := by
 go_enter Tryz.func19, Tryz.ntmps19
 go_wp2_with fail
 have hB1 := Blk.alloc (Blk.new w #[.int .i64 2, .int .i64 1, .int .i64 1, .int .i64 2, .int .i64 9, .int .u64 100, .int .i64 0, .int .u64 10, .int .u64 1, .int .u64 10, .slice (some ⟨w.heap.size + 1, 0, none⟩) 2 2] TCg) (.cells flV TFl)
 have hB2 := Blk.new2 w (.cells #[.int .i64 2, .int .i64 1, .int .i64 1, .int .i64 2, .int .i64 9, .int .u64 100, .int .i64 0, .int .u64 10, .int .u64 1, .int .u64 10, .slice (some ⟨w.heap.size + 1, 0, none⟩) 2 2] TCg) flV TFl
 exact bodyPost_ret (v := .agg (VC (cfS 1) (.slice (some ⟨w.heap.size + 1, 0, none⟩) 2 2))) (results_cell (t := TCg) (x := 0) rfl rfl (load_all (n := 11) hB1 Tryz.underlying35 rfl (by kernel_rfl) rfl)) rfl ⟨_, rfl, fls_at hB2 1, ((Upd.refl _ _).alloc _).alloc _⟩
/-- The example's operations. -/
def lvO : List Sh.Op := [⟨1, 1, 1, 1, 0⟩, ⟨1, 2, 2, 1, 0⟩, ⟨1, 1, 3, 1, 0⟩, ⟨2, 0, 0, 0, 0⟩]
abbrev lvV : Array Value := #[.int .i64 1, .int .u32 1, .int .u32 1, .int .u64 1, .int .u64 0, .int .i64 1, .int .u32 2, .int .u32 2, .int .u64 1, .int .u64 0, .int .i64 1, .int .u32 1, .int .u32 3, .int .u64 1, .int .u64 0, .int .i64 2, .int .u32 0, .int .u32 0, .int .u64 0, .int .u64 0]
theorem ops_at {w : World} {g : Nat} (h : Blk w g lvV TOp) : OpsIn w (some ⟨g, 0, none⟩) lvO := fun k f hf => by
 match k, hf with
 | 0, hf => cases hf; exact ⟨g, 0, rfl, h.cellAt rfl, h.cellAt rfl, h.cellAt rfl, h.cellAt rfl, h.cellAt rfl⟩
 | 1, hf => cases hf; exact ⟨g, 0, rfl, h.cellAt rfl, h.cellAt rfl, h.cellAt rfl, h.cellAt rfl, h.cellAt rfl⟩
 | 2, hf => cases hf; exact ⟨g, 0, rfl, h.cellAt rfl, h.cellAt rfl, h.cellAt rfl, h.cellAt rfl, h.cellAt rfl⟩
 | 3, hf => cases hf; exact ⟨g, 0, rfl, h.cellAt rfl, h.cellAt rfl, h.cellAt rfl, h.cellAt rfl, h.cellAt rfl⟩
theorem lv_ok : ∀ x ∈ lvO, x.Ok := by unfold lvO Sh.Op.Ok; decide
theorem cfS_ok {b : Int} (hb : 1 ≤ b ∧ b ≤ 3) : Sh.Cok (cfS b) := by
 have hk : Sh.chk (cfS b) = 0 := by
  rcases (show b = 1 ∨ b = 2 ∨ b = 3 by omega) with rfl | rfl | rfl <;> decide
 refine ⟨hk, ?_, ?_, ?_, ?_, ?_, ?_⟩
 · show (100 : Nat) ≤ 18446744073709551615; omega
 · show (1 : Nat) ≤ 18446744073709551615; omega
 · show (10 : Nat) ≤ 18446744073709551615; omega
 · show (10 : Nat) ≤ 65535; omega
 · show (1 : Int) ≤ 9 ∧ (9 : Int) ≤ 4096; omega
 · intro f hf
   have : f = ⟨1, 1, 10, 0, 50⟩ ∨ f = ⟨2, 1, 20, 0, 50⟩ := by simpa [cfS] using hf
   rcases this with rfl | rfl <;> decide
theorem good_S {b : Int} (hb : 1 ≤ b ∧ b ≤ 3) : Sh.Good (cfS b) (Sh.st0 (cfS b)) := Sh.good_st0 (cfS_ok hb) (by show (1 : Int) ≤ 2 ∧ (2 : Int) ≤ 32; omega)
theorem lv_h : ((Sh.runS (cfS 1) (Sh.st0 (cfS 1)) lvO).1[3]?).map (fun r => (r.pkt.2.1, r.code)) = some (1, 0) := by decide
theorem lv_q : ((Sh.runS (cfS 3) (Sh.st0 (cfS 3)) lvO).1[3]?).map (fun r => (r.pkt.2.1, r.rank)) = some (3, 10) := by decide
/-- A reply's cell in a row. -/
theorem rr_at {l : List Sh.Re} {k j : Nat} {r : Sh.Re} {v : Value} (h : l[k]? = some r) (hj : j < 42) (hv : (vre r)[j]? = some v) : (reRow l)[k * 42 + j]? = some v := by
 induction l generalizing k with
 | nil => simp at h
 | cons x t ih =>
   have hx : (vre x).toList.length = 42 := rfl
   have e : reRow (x :: t) = (vre x).toList ++ reRow t := by unfold reRow; rw [List.flatMap_cons]
   rw [e]
   cases k with
   | zero =>
     simp only [List.getElem?_cons_zero] at h
     cases h
     rw [Nat.zero_mul, Nat.zero_add, List.getElem?_append_left (by rw [hx]; exact hj)]
     simpa using hv
   | succ k =>
     simp only [List.getElem?_cons_succ] at h
     rw [List.getElem?_append_right (by rw [hx]; omega), hx, show (k + 1) * 42 + j - 42 = k * 42 + j by omega]
     exact ih h
/-- What a row of replies says. -/
theorem row_re {w0 w : World} {l : List Comp} {v : Value} {n k j : Nat} {L : List Sh.Re} {r : Sh.Re} {u : Value} (h : Made w0 w l) (hC : rowW TRe 42 v n (reRow L) ∈ l) (hr : L[k]? = some r) (hj : j < 42) (hv : (vre r)[j]? = some u) : ∃ g c, v = .slice (some ⟨g, 0, none⟩) n c ∧ w.cell? ⟨g, k * 42 + j, none⟩ = some u := by
 have h1 := rr_at hr hj hv
 have hown := m_own h hC
 have hn : 0 < n := by
  rcases Nat.eq_zero_or_pos n with h0 | h0
  · have h2 := hown.1
    rw [h0, Nat.zero_mul] at h2
    rw [List.eq_nil_of_length_eq_zero h2] at h1
    cases h1
  · exact h0
 obtain ⟨g, c, rfl⟩ := m_arr h hC hn
 exact ⟨g, c, rfl, m_cell h hC h1⟩
theorem lives_any (w : World) : Calls Tryz.prog 5 #[] w fun e w' => e = .returned (.bool true) ∧ Upd Nowhere w w' := by
 have HS := fun u => Lib.hid (some_any u)
 have HC1 := Lib.hid (cfS_ok (b := 1) (by omega))
 have HC3 := Lib.hid (cfS_ok (b := 3) (by omega))
 go_enter Tryz.func5, Tryz.ntmps5
 go_upto_region 2 with fail
 have hO : Blk (w.alloc (.cells lvV TOp)) w.heap.size lvV TOp := Blk.new _ _ _
 have hU : Upd Nowhere w (w.alloc (.cells lvV TOp)) := (Upd.refl _ _).alloc _
 generalize w.alloc (.cells lvV TOp) = w1 at *
 generalize w.heap.size = ob at *
 go_wp2_with fail
 refine (HS _).out.mono ?_
 rintro e w2 ⟨gf, rfl, hf, u2⟩
 have HO2 := Lib.hid (ops_at (Shm.Blk.old hO u2))
 have HU2 := Lib.hid (hU.trans u2 (fun _ _ h => h))
 have HF2 := Lib.hid hf
 clear hf u2 hO hU HS
 go_upto_region 3 with fail
 have hM3 : Made w2 (w2.alloc (.cells (VC (cfS 1) (.slice (some ⟨gf, 0, none⟩) 2 2)) TCg)) [blkC w2.heap.size (VC (cfS 1) (.slice (some ⟨gf, 0, none⟩) 2 2)) TCg] := (Made.start w2).more (C := blkC w2.heap.size (VC (cfS 1) (.slice (some ⟨gf, 0, none⟩) 2 2)) TCg) (o := fun q => q = w2.heap.size) ⟨Blk.new _ _ _, fun _ => Iff.rfl⟩ (fun q hq => by rw [hq]; exact Nat.le_refl _) ((Upd.refl _ _).alloc _)
 have HM3 := Lib.hid hM3
 clear hM3
 generalize w2.heap.size = cb at *
 generalize w2.alloc (.cells (VC (cfS 1) (.slice (some ⟨gf, 0, none⟩) 2 2)) TCg) = w3 at *
 have HN1 := Lib.hid (new_ok Bk.bq_laws (cp := 2) (n := 2) (c := cfS 1) rfl HC1.out (HF2.out.old HM3.out.upd) (fun u _ => made_heap rfl HC1.out.pk u))
 obtain ⟨q0, q1, q2, q3, q4, q5, q6, q7, q8, q9, q10⟩ := cgs (made_blk (l1 := []) HM3.out)
 go_wp2_with fail
 refine HN1.out.mono ?_
 rintro e w4 ⟨L1, own1, rfl, h4, hge4, u4⟩
 have HM4 := Lib.hid (HM3.out.more (C := shC Bk.bq_laws L1 (cfS 1) 0 (Sh.st0 (cfS 1))) h4 hge4 u4)
 clear h4 hge4 u4 HN1 q0 q1 q2 q3 q4 q5 q6 q7 q8 q9 q10 HM3
 have HR1 := Lib.hid (run_any Bk.bq_laws (n := 4) (cp := 4) (l := lvO) HM4.out (good_S (by omega)) HC1.out rfl (by omega) (fun u hu => HO2.out.old hu.upd) lv_ok (by omega) (fun _ _ _ => allow_bq) (fun _ _ _ _ => trivial))
 go_wp2_with fail
 refine HR1.out.mono ?_
 rintro e w5 ⟨v1, cnt1, rfl, _, hM5⟩
 have HM5 := Lib.hid hM5
 have z1 := (made_blk (l1 := [rowW TRe 42 v1 4 (reRow (Sh.runS (cfS 1) (Sh.st0 (cfS 1)) lvO).1), shC Bk.bq_laws L1 (cfS 1) cnt1 (Sh.runS (cfS 1) (Sh.st0 (cfS 1)) lvO).2]) hM5).free 1
 have c1 : w5.cell? ⟨cb, 1, none⟩ = some (.int .i64 1) := (made_blk (l1 := [rowW TRe 42 v1 4 (reRow (Sh.runS (cfS 1) (Sh.st0 (cfS 1)) lvO).1), shC Bk.bq_laws L1 (cfS 1) cnt1 (Sh.runS (cfS 1) (Sh.st0 (cfS 1)) lvO).2]) hM5).cellAt rfl
 have HM6 : Hid (Made w2 (w5.setCell ⟨cb, 1, none⟩ (.int .i64 3)) (rowW TRe 42 v1 4 (reRow (Sh.runS (cfS 1) (Sh.st0 (cfS 1)) lvO).1) :: shC Bk.bq_laws L1 (cfS 1) cnt1 (Sh.runS (cfS 1) (Sh.st0 (cfS 1)) lvO).2 :: [blkC cb (VC (cfS 3) (.slice (some ⟨gf, 0, none⟩) 2 2)) TCg])) := Lib.hid (made_set (l1 := [rowW TRe 42 v1 4 (reRow (Sh.runS (cfS 1) (Sh.st0 (cfS 1)) lvO).1), shC Bk.bq_laws L1 (cfS 1) cnt1 (Sh.runS (cfS 1) (Sh.st0 (cfS 1)) lvO).2]) hM5 1 (.int .i64 3))
 clear hM5 HR1 HM4 HM5
 go_upto_region 8 with fail
 generalize w5.setCell ⟨cb, 1, none⟩ (.int .i64 3) = w6 at *
 clear c1 z1
 have HN2 := Lib.hid (new_ok Bk.bq_laws (cp := 2) (n := 2) (c := cfS 3) rfl HC3.out (HF2.out.old HM6.out.upd) (fun u _ => made_queues rfl HC3.out.pk (by show (1 : Int) ≤ 2 ∧ (2 : Int) ≤ 32; omega) u))
 obtain ⟨q0, q1, q2, q3, q4, q5, q6, q7, q8, q9, q10⟩ := cgs (made_blk (l1 := [rowW TRe 42 v1 4 (reRow (Sh.runS (cfS 1) (Sh.st0 (cfS 1)) lvO).1), shC Bk.bq_laws L1 (cfS 1) cnt1 (Sh.runS (cfS 1) (Sh.st0 (cfS 1)) lvO).2]) HM6.out)
 go_wp2_with fail
 refine HN2.out.mono ?_
 rintro e w7 ⟨L2, own2, rfl, h7, hge7, u7⟩
 have HM7 := Lib.hid (HM6.out.more (C := shC Bk.bq_laws L2 (cfS 3) 0 (Sh.st0 (cfS 3))) h7 hge7 u7)
 clear h7 hge7 u7 HN2 q0 q1 q2 q3 q4 q5 q6 q7 q8 q9 q10 HM6
 have HR2 := Lib.hid (run_any Bk.bq_laws (n := 4) (cp := 4) (l := lvO) HM7.out (good_S (by omega)) HC3.out rfl (by omega) (fun u hu => HO2.out.old hu.upd) lv_ok (by omega) (fun _ _ _ => allow_bq) (fun _ _ _ _ => trivial))
 go_wp2_with fail
 refine HR2.out.mono ?_
 rintro e w8 ⟨v2, cnt2, rfl, _, hM8⟩
 obtain ⟨r1, hr1, hr1b⟩ := Option.map_eq_some_iff.1 lv_h
 obtain ⟨r2, hr2, hr2b⟩ := Option.map_eq_some_iff.1 lv_q
 have e1 : r1.pkt.2.1 = 1 := congrArg Prod.fst hr1b
 have e2 : r1.code = 0 := congrArg Prod.snd hr1b
 have e3 : r2.pkt.2.1 = 3 := congrArg Prod.fst hr2b
 have e4 : r2.rank = 10 := congrArg Prod.snd hr2b
 obtain ⟨g1, cp1, rfl, b1⟩ := row_re (k := 3) (j := 3) (u := .int .u32 (r1.pkt.2.1 : Nat)) hM8 mem2 hr1 (by omega) rfl
 obtain ⟨g2, cp2, rfl, b2⟩ := row_re (k := 3) (j := 3) (u := .int .u32 (r2.pkt.2.1 : Nat)) hM8 mem0 hr2 (by omega) rfl
 obtain ⟨_, _, y1, b3⟩ := row_re (k := 3) (j := 5) (u := .int .u64 (r2.rank : Nat)) hM8 mem0 hr2 (by omega) rfl
 cases y1
 obtain ⟨_, _, y2, b4⟩ := row_re (k := 3) (j := 1) (u := .int .i64 (r1.code : Nat)) hM8 mem2 hr1 (by omega) rfl
 cases y2
 have a1 : w8.cell? ⟨g1, 129, none⟩ = some (.int .u32 1) := by rw [b1, e1]; rfl
 have a2 : w8.cell? ⟨g2, 129, none⟩ = some (.int .u32 3) := by rw [b2, e3]; rfl
 have a3 : w8.cell? ⟨g2, 131, none⟩ = some (.int .u64 10) := by rw [b3, e4]; rfl
 have a4 : w8.cell? ⟨g1, 127, none⟩ = some (.int .i64 0) := by rw [b4, e2]; rfl
 clear b1 b2 b3 b4
 have HUF := Lib.hid (HU2.out.trans hM8.upd (fun _ _ h => h))
 clear hr1 hr2 hr1b hr2b e1 e2 e3 e4 hM8 HR2 HM7
 go_wp2_with fail
 go_ret
 exact ⟨rfl, HUF.out⟩
end Go.Proofs.YtpgpjjkeginbbaaGreatDoor.Shm
