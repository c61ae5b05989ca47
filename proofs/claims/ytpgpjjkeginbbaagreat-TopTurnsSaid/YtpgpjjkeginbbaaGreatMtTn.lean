/- Turns0, TopTurns, one behind the other. -/
import Derived.Test.YtpgpjjkeginbbaaGreatMtSh11
import Derived.Test.YtpgpjjkeginbbaaGreatMtCk
import Derived.Test.YtpgpjjkeginbbaaGreatMtBig
namespace Go.Proofs.YtpgpjjkeginbbaaGreat.Shm
open Go.RowKit Go.Proofs BigFrame
open Sh (Fl Cg Pk St)
open Rnk (FlsIn)
open Gt (VC TCg cgs)
set_option maxHeartbeats 4000000
set_option maxRecDepth 1000000
set_option linter.unusedSimpArgs false
/-- The example's configuration, with one queue. -/
def cfT (back : Int) : Cg := { cfS back with queues := 1 }
def tnO : List Sh.Op := [⟨1, 2, 1, 1, 0⟩, ⟨1, 1, 2, 1, 0⟩, ⟨2, 0, 0, 0, 0⟩]
abbrev tnV : Array Value := #[.int .i64 1, .int .u32 2, .int .u32 1, .int .u64 1, .int .u64 0, .int .i64 1, .int .u32 1, .int .u32 2, .int .u64 1, .int .u64 0, .int .i64 2, .int .u32 0, .int .u32 0, .int .u64 0, .int .u64 0]
theorem tns_at {w : World} {g : Nat} (h : Blk w g tnV TOp) : OpsIn w (some ⟨g, 0, none⟩) tnO := fun k f hf => by
  match k, hf with
  | 0, hf => cases hf; exact ⟨g, 0, rfl, h.cellAt rfl, h.cellAt rfl, h.cellAt rfl, h.cellAt rfl, h.cellAt rfl⟩
  | 1, hf => cases hf; exact ⟨g, 0, rfl, h.cellAt rfl, h.cellAt rfl, h.cellAt rfl, h.cellAt rfl, h.cellAt rfl⟩
  | 2, hf => cases hf; exact ⟨g, 0, rfl, h.cellAt rfl, h.cellAt rfl, h.cellAt rfl, h.cellAt rfl, h.cellAt rfl⟩
theorem tn_ok : ∀ x ∈ tnO, x.Ok := by unfold tnO Sh.Op.Ok; decide
theorem cfT_ok {b : Int} (hb : 1 ≤ b ∧ b ≤ 3) : Sh.Cok (cfT b) := by
  have hk : Sh.chk (cfT b) = 0 := by
    rcases (show b = 1 ∨ b = 2 ∨ b = 3 by omega) with rfl | rfl | rfl <;> decide
  have h := cfS_ok hb
  exact ⟨hk, h.by_, h.rate, h.burst, h.mtu, h.pk, h.fl⟩
theorem tn_q : ((Sh.runS (cfS 3) (Sh.st0 (cfS 3)) lvO).1[3]?).map (fun r => (r.pkt.2.1, r.rank)) = some (3, 10) := by decide
theorem tn_h : ((Sh.runS (cfS 1) (Sh.st0 (cfS 1)) lvO).1[3]?).map (fun r => (r.pkt.2.1, r.rank)) = some (1, 10) := by decide
theorem tn_d : ((Sh.runS (cfT 3) (Sh.st0 (cfT 3)) tnO).1[2]?).map (fun r => (r.pkt.2.1, r.rank)) = some (1, 20) := by decide
theorem tn_c : ((Sh.runS (cfT 2) (Sh.st0 (cfT 2)) tnO).1[2]?).map (fun r => (r.pkt.2.1, r.rank)) = some (2, 10) := by decide
/-- The calendar is asked for what it may be asked. -/
theorem tn_al : ∀ k x, tnO[k]? = some x → Allow Ck.ck_laws (cfT 2) (Sh.runS (cfT 2) (Sh.st0 (cfT 2)) (tnO.take k)).2 x := fun k x hx => by
  match k, hx with
  | 0, hx => cases hx; exact ⟨fun _ _ => .inl ⟨by decide, by decide⟩, fun h => absurd h (by decide)⟩
  | 1, hx => cases hx; exact ⟨fun _ _ => .inr ⟨by decide, by decide⟩, fun h => absurd h (by decide)⟩
  | 2, hx => cases hx; exact ⟨fun h => absurd h (by decide), fun _ => (show Sh.Bk.len _ ≠ 1 by decide)⟩
section
variable {R : World → Value → (Nat → Prop) → Nat → Nat → Sh.Bk → Prop}
theorem run_gen (hR : Bk.Laws R) {w : World} {c : Cg} {gf ob nl k id rk : Nat} {back : Int} {l : List Sh.Op} (hn : c.flows.length = 2) (hf : FlsIn w (some ⟨gf, 0, none⟩) c.flows) (hc : Sh.Cok (bkd c back 1)) (hln : l.length = nl) (hnl : nl ≤ 65536) (hops : OpsIn w (some ⟨ob, 0, none⟩) l) (hok : ∀ x ∈ l, x.Ok) (hal : ∀ k x, l[k]? = some x → Allow hR (bkd c back 1) (Sh.runS (bkd c back 1) (Sh.st0 (bkd c back 1)) (l.take k)).2 x) (HM : ∀ u, MadeOk R (bkd c back 1) (.slice (some ⟨gf, 0, none⟩) 2 2) u) (hres : ((Sh.runS (bkd c back 1) (Sh.st0 (bkd c back 1)) l).1[k]?).map (fun r => (r.pkt.2.1, r.rank)) = some (id, rk)) :
    Calls Tryz.prog 10 #[.agg (VC c (.slice (some ⟨gf, 0, none⟩) 2 2)), .int .i64 back, .int .i64 1, .slice (some ⟨ob, 0, none⟩) nl nl] w fun e w' => ∃ g cp, e = .returned (.tuple #[.slice (some ⟨g, 0, none⟩) nl cp, .int .i64 0]) ∧ w'.cell? ⟨g, k * 42 + 3, none⟩ = some (.int .u32 id) ∧ w'.cell? ⟨g, k * 42 + 5, none⟩ = some (.int .u64 rk) ∧ w.heap.size ≤ g ∧ Upd Nowhere w w' := by
  refine (runs_ok (w := w) (c := c) (ad := some ⟨gf, 0, none⟩) (ado := some ⟨ob, 0, none⟩) (cp := 2) (cpo := nl) (nl := nl) (back := back) (levels := 1) hR hn hf hc hln hnl hops hok hal (fun u _ => HM u)).mono ?_
  rintro e w' ⟨v, rfl, hM⟩
  obtain ⟨r, hr, hrb⟩ := Option.map_eq_some_iff.1 hres
  have e1 : r.pkt.2.1 = id := congrArg Prod.fst hrb
  have e2 : r.rank = rk := congrArg Prod.snd hrb
  obtain ⟨g, cp, rfl, b1⟩ := row_re (k := k) (j := 3) (u := .int .u32 (r.pkt.2.1 : Nat)) hM mem0 hr (by omega) rfl
  obtain ⟨_, _, y1, b2⟩ := row_re (k := k) (j := 5) (u := .int .u64 (r.rank : Nat)) hM mem0 hr (by omega) rfl
  cases y1
  exact ⟨g, cp, rfl, by rw [b1, e1], by rw [b2, e2], by obtain ⟨o, hP, hge, _⟩ := Made.foc (rowW TRe 42 _ nl _) [] [] hM; exact hge g ((hP.2 g).2 rfl), hM.upd⟩
end
theorem run_q {w : World} {gf ob : Nat} (hf : FlsIn w (some ⟨gf, 0, none⟩) (cfS 1).flows) (hO : Blk w ob lvV TOp) :
    Calls Tryz.prog 10 #[.agg (VC (cfS 1) (.slice (some ⟨gf, 0, none⟩) 2 2)), .int .i64 3, .int .i64 1, .slice (some ⟨ob, 0, none⟩) 4 4] w fun e w' => ∃ g cp, e = .returned (.tuple #[.slice (some ⟨g, 0, none⟩) 4 cp, .int .i64 0]) ∧ w'.cell? ⟨g, 129, none⟩ = some (.int .u32 3) ∧ w'.cell? ⟨g, 131, none⟩ = some (.int .u64 10) ∧ w.heap.size ≤ g ∧ Upd Nowhere w w' :=
  run_gen Bk.bq_laws (k := 3) (id := 3) (rk := 10) (back := 3) rfl hf (cfS_ok (b := 3) (by omega)) rfl (by omega) (ops_at hO) lv_ok (fun _ _ _ => allow_bq) (fun u => made_queues rfl (cfS_ok (b := 3) (by omega)).pk (by show (1 : Int) ≤ 2 ∧ (2 : Int) ≤ 32; omega) u) tn_q
theorem run_h {w : World} {gf ob : Nat} (hf : FlsIn w (some ⟨gf, 0, none⟩) (cfS 1).flows) (hO : Blk w ob lvV TOp) :
    Calls Tryz.prog 10 #[.agg (VC (cfS 1) (.slice (some ⟨gf, 0, none⟩) 2 2)), .int .i64 1, .int .i64 1, .slice (some ⟨ob, 0, none⟩) 4 4] w fun e w' => ∃ g cp, e = .returned (.tuple #[.slice (some ⟨g, 0, none⟩) 4 cp, .int .i64 0]) ∧ w'.cell? ⟨g, 129, none⟩ = some (.int .u32 1) ∧ w'.cell? ⟨g, 131, none⟩ = some (.int .u64 10) ∧ w.heap.size ≤ g ∧ Upd Nowhere w w' :=
  run_gen Bk.bq_laws (k := 3) (id := 1) (rk := 10) (back := 1) rfl hf (cfS_ok (b := 1) (by omega)) rfl (by omega) (ops_at hO) lv_ok (fun _ _ _ => allow_bq) (fun u => made_heap rfl (cfS_ok (b := 1) (by omega)).pk u) tn_h
theorem run_d {w : World} {gf ob : Nat} (hf : FlsIn w (some ⟨gf, 0, none⟩) (cfS 1).flows) (hO : Blk w ob tnV TOp) :
    Calls Tryz.prog 10 #[.agg (VC (cfT 1) (.slice (some ⟨gf, 0, none⟩) 2 2)), .int .i64 3, .int .i64 1, .slice (some ⟨ob, 0, none⟩) 3 3] w fun e w' => ∃ g cp, e = .returned (.tuple #[.slice (some ⟨g, 0, none⟩) 3 cp, .int .i64 0]) ∧ w'.cell? ⟨g, 87, none⟩ = some (.int .u32 1) ∧ w'.cell? ⟨g, 89, none⟩ = some (.int .u64 20) ∧ w.heap.size ≤ g ∧ Upd Nowhere w w' :=
  run_gen Bk.bq_laws (k := 2) (id := 1) (rk := 20) (back := 3) rfl hf (cfT_ok (b := 3) (by omega)) rfl (by omega) (tns_at hO) tn_ok (fun _ _ _ => allow_bq) (fun u => made_queues rfl (cfT_ok (b := 3) (by omega)).pk (by show (1 : Int) ≤ 1 ∧ (1 : Int) ≤ 32; omega) u) tn_d
theorem run_c {w : World} {gf ob : Nat} (hf : FlsIn w (some ⟨gf, 0, none⟩) (cfS 1).flows) (hO : Blk w ob tnV TOp) :
    Calls Tryz.prog 10 #[.agg (VC (cfT 1) (.slice (some ⟨gf, 0, none⟩) 2 2)), .int .i64 2, .int .i64 1, .slice (some ⟨ob, 0, none⟩) 3 3] w fun e w' => ∃ g cp, e = .returned (.tuple #[.slice (some ⟨g, 0, none⟩) 3 cp, .int .i64 0]) ∧ w'.cell? ⟨g, 87, none⟩ = some (.int .u32 2) ∧ w'.cell? ⟨g, 89, none⟩ = some (.int .u64 10) ∧ w.heap.size ≤ g ∧ Upd Nowhere w w' :=
  run_gen Ck.ck_laws (k := 2) (id := 2) (rk := 10) (back := 2) rfl hf (cfT_ok (b := 2) (by omega)) rfl (by omega) (tns_at hO) tn_ok tn_al (fun u => Ck.made_cal rfl (cfT_ok (b := 2) (by omega)).pk (by show (1 : Int) ≤ 1 ∧ (1 : Int) ≤ 3; omega) u) tn_c
end Go.Proofs.YtpgpjjkeginbbaaGreat.Shm
namespace Go.Proofs.YtpgpjjkeginbbaaGreat.Shm
open Go.RowKit Go.Proofs BigFrame
open Sh (Fl Cg Pk St)
open Rnk (FlsIn)
open Gt (VC TCg cgs)
set_option maxHeartbeats 40000000
set_option maxRecDepth 1000000
set_option linter.unusedSimpArgs false
abbrev outV : Array Value := #[.int .i64 2, .int .u32 0, .int .u32 0, .int .u64 0, .int .u64 0]
/-- The closure: an operation that lets a packet in. -/
theorem in_any (f i : Nat) (w : World) : Calls Tryz.prog 16 #[.int .u32 f, .int .u32 i] w fun e w' => e = .returned (.agg #[.int .i64 1, .int .u32 f, .int .u32 i, .int .u64 1, .int .u64 0]) ∧ Upd Nowhere w w' := by
  go_enter Tryz.func16, Tryz.ntmps16
  go_wp2_with fail
  have hB := Blk.new w #[.int .i64 1, .int .u32 f, .int .u32 i, .int .u64 1, .int .u64 0] TOp
  exact bodyPost_ret (v := .agg #[.int .i64 1, .int .u32 f, .int .u32 i, .int .u64 1, .int .u64 0]) (results_cell (t := TOp) (x := 4) rfl rfl (load_all (n := 5) hB Tryz.underlying50 rfl (by kernel_rfl) rfl)) rfl ⟨rfl, (Upd.refl _ _).alloc _⟩
theorem turns_law (w : World) : Calls Tryz.prog 7 #[] w fun e w' => e = .returned (.bool true) ∧ Upd Nowhere w w' := by
  have HS := fun u => Lib.hid (some_any u)
  have HOP := fun f i u => Lib.hid (in_any f i u)
  have HLv := fun u => Lib.hid (lives_any u)
  go_enter Tryz.func7, Tryz.ntmps7
  go_wp2_with fail
  refine (HS _).out.mono ?_
  rintro e w1 ⟨gf, rfl, hf, u1⟩
  go_upto_region 4 with fail
  have hB1 := Blk.alloc (Blk.new w1 (VC (cfS 1) (.slice (some ⟨gf, 0, none⟩) 2 2)) TCg) (.cells outV TOp)
  have hO1 := Blk.new2 w1 (.cells (VC (cfS 1) (.slice (some ⟨gf, 0, none⟩) 2 2)) TCg) outV TOp
  have hU1 : Upd Nowhere w1 ((w1.alloc (.cells (VC (cfS 1) (.slice (some ⟨gf, 0, none⟩) 2 2)) TCg)).alloc (.cells outV TOp)) := ((Upd.refl _ _).alloc _).alloc _
  have HF := Lib.hid hf
  have HU := Lib.hid hU1
  have HU1 := Lib.hid u1
  have hwl : w1.heap.size ≤ w1.heap.size := Nat.le_refl _
  obtain ⟨pb, hpb⟩ : ∃ pb, w1.heap.size = pb := ⟨_, rfl⟩
  obtain ⟨ob, hob⟩ : ∃ ob, pb + 1 = ob := ⟨_, rfl⟩
  rw [hpb] at hB1 hO1 hwl
  rw [hob] at hO1
  try simp only [hpb, hob]
  have HB := Lib.hid hB1
  have HO := Lib.hid hO1
  have HPB : Hid (w1.heap.size ≤ pb ∧ ob ≠ pb) := Lib.hid ⟨by omega, by omega⟩
  clear hf u1 hU1 hB1 hO1 hwl hpb hob HS
  generalize (w1.alloc (.cells (VC (cfS 1) (.slice (some ⟨gf, 0, none⟩) 2 2)) TCg)).alloc (.cells outV TOp) = wA at *
  have hBc := HB.out
  have hOc := HO.out
  refine wp_region_held_drew (S := fun w' => Upd Nowhere wA w') (by kernel_rfl) ((Upd.refl _ _).drew) (fun hHeld => ?_)
  refine tkq 0 (v := .agg (VC (cfS 1) (.slice (some ⟨gf, 0, none⟩) 2 2))) ?_ (hy := fun w h => exec_load (load_all (n := 11) (Shm.Blk.old hBc h) Tryz.underlying25 rfl (by kernel_rfl) rfl))
  refine wpAnyH_take (i := 1) (v := ?_) (by simp only [List.getElem?_toArray, List.getElem?_cons_zero, List.getElem?_cons_succ]; rfl) (by kernel_rfl) (by kernel_rfl) (by kernel_rfl) (by intro _ _ _ h; exact h) (Or.inl ⟨by rfl, ?_⟩) (by assumption) ?_
  rotate_left 1
  · intro w hSw; (try dsimp only at hSw); go_simp; try with_reducible rfl
  try simp only [Act.put, List.setIfInBounds_toArray, List.set_cons_zero, List.set_cons_succ]
  refine wpAnyH_take (i := 3) (v := ?_) (by simp only [List.getElem?_toArray, List.getElem?_cons_zero, List.getElem?_cons_succ]; rfl) (by kernel_rfl) (by kernel_rfl) (by kernel_rfl) (by intro _ _ _ h; exact h) (Or.inl ⟨by rfl, ?_⟩) (by assumption) ?_
  rotate_left 1
  · intro w hSw; (try dsimp only at hSw); go_simp; try with_reducible rfl
  try simp only [Act.put, List.setIfInBounds_toArray, List.set_cons_zero, List.set_cons_succ]
  refine wpAnyH_take (i := 5) (v := ?_) (by simp only [List.getElem?_toArray, List.getElem?_cons_zero, List.getElem?_cons_succ]; rfl) (by kernel_rfl) (by kernel_rfl) (by kernel_rfl) (by intro _ _ _ h; exact h) (Or.inl ⟨by rfl, ?_⟩) (by assumption) ?_
  rotate_left 1
  · intro w hSw; (try dsimp only at hSw); go_simp; try with_reducible rfl
  try simp only [Act.put, List.setIfInBounds_toArray, List.set_cons_zero, List.set_cons_succ]
  refine tkq 7 (v := .agg outV) ?_ (hy := fun w h => exec_load (load_all (n := 5) (Shm.Blk.old hOc h) Tryz.underlying50 rfl (by kernel_rfl) rfl))
  refine wpAnyH_ready (rs := [2]) (by kernel_rfl) (by simp) ?_
  refine AllReadyH.cons (by simp only [List.getElem?_toArray, List.getElem?_cons_zero, List.getElem?_cons_succ]; rfl) (fun K hK => ?_) AllReadyH.nil
  go_simp
  go_wp2_with (refine (HOP 1 1 _).out.mono ?_; rintro e wo0 ⟨rfl, u0⟩)
  refine hK.out _ _ (by (try dsimp only); exact hHeld.trans u0 (fun _ _ h => h)) (fun hHeld => ?_)
  clear hK K
  refine wpAnyH_ready (rs := [4]) (by kernel_rfl) (by simp) ?_
  refine AllReadyH.cons (by simp only [List.getElem?_toArray, List.getElem?_cons_zero, List.getElem?_cons_succ]; rfl) (fun K hK => ?_) AllReadyH.nil
  go_simp
  go_wp2_with (refine (HOP 2 2 _).out.mono ?_; rintro e wo1 ⟨rfl, u1⟩)
  refine hK.out _ _ (by (try dsimp only); exact hHeld.trans u1 (fun _ _ h => h)) (fun hHeld => ?_)
  clear hK K
  refine wpAnyH_ready (rs := [6]) (by kernel_rfl) (by simp) ?_
  refine AllReadyH.cons (by simp only [List.getElem?_toArray, List.getElem?_cons_zero, List.getElem?_cons_succ]; rfl) (fun K hK => ?_) AllReadyH.nil
  go_simp
  go_wp2_with (refine (HOP 1 3 _).out.mono ?_; rintro e wo2 ⟨rfl, u2⟩)
  refine hK.out _ _ (by (try dsimp only); exact hHeld.trans u2 (fun _ _ h => h)) (fun hHeld => ?_)
  clear hK K
  refine wpAnyH_ready (rs := [8]) (by kernel_rfl) (by simp) ?_
  refine AllReadyH.cons (by simp only [List.getElem?_toArray, List.getElem?_cons_zero, List.getElem?_cons_succ]; rfl) (fun K hK => ?_) AllReadyH.nil
  go_simp
  refine hK.out _ _ (by (try dsimp only); exact hHeld.alloc _) (fun hHeld => ?_)
  clear hK K
  have hNO := Blk.new wo2 lvV TOp
  have HRN := Lib.hid (run_q (gf := gf) (HF.out.old (HU.out.trans hHeld (fun _ _ h => h))) hNO)
  refine wpAnyH_ready (rs := [9]) (by kernel_rfl) (by simp) ?_
  refine AllReadyH.cons (by simp only [List.getElem?_toArray, List.getElem?_cons_zero, List.getElem?_cons_succ]; rfl) (fun K hK => ?_) AllReadyH.nil
  go_simp
  go_wp2_with (refine HRN.out.mono ?_; rintro e wB ⟨ga, ca, rfl, a1, a2, hgn, ur⟩; have hgn : pb ≠ ga := (by have h1 := hHeld.size; have h2 := Blk.lt hBc; omega))
  refine hK.out _ _ (by (try dsimp only); exact hHeld.trans ur (fun _ _ h => h)) (fun hHeld => ?_)
  clear hK K
  refine wpAnyH_take (i := 10) (v := ?_) (by simp only [List.getElem?_toArray, List.getElem?_cons_zero, List.getElem?_cons_succ]; rfl) (by kernel_rfl) (by kernel_rfl) (by kernel_rfl) (by intro _ _ _ h; exact h) (Or.inl ⟨by rfl, ?_⟩) (by assumption) ?_
  rotate_left 1
  · intro w hSw; (try dsimp only at hSw); go_simp; try with_reducible rfl
  try simp only [Act.put, List.setIfInBounds_toArray, List.set_cons_zero, List.set_cons_succ]
  refine wpAnyH_take (i := 11) (v := ?_) (by simp only [List.getElem?_toArray, List.getElem?_cons_zero, List.getElem?_cons_succ]; rfl) (by kernel_rfl) (by kernel_rfl) (by kernel_rfl) (by intro _ _ _ h; exact h) (Or.inl ⟨by rfl, ?_⟩) (by assumption) ?_
  rotate_left 1
  · intro w hSw; (try dsimp only at hSw); go_simp; try with_reducible rfl
  try simp only [Act.put, List.setIfInBounds_toArray, List.set_cons_zero, List.set_cons_succ]
  refine wpAnyH_take (i := 12) (v := ?_) (by simp only [List.getElem?_toArray, List.getElem?_cons_zero, List.getElem?_cons_succ]; rfl) (by kernel_rfl) (by kernel_rfl) (by kernel_rfl) (by intro _ _ _ h; exact h) (Or.inl ⟨by rfl, ?_⟩) (by assumption) ?_
  rotate_left 1
  · intro w hSw; (try dsimp only at hSw); go_simp; try with_reducible rfl
  try simp only [Act.put, List.setIfInBounds_toArray, List.set_cons_zero, List.set_cons_succ]
  refine wpAnyH_take (i := 13) (v := ?_) (by simp only [List.getElem?_toArray, List.getElem?_cons_zero, List.getElem?_cons_succ]; rfl) (by kernel_rfl) (by kernel_rfl) (by kernel_rfl) (by intro _ _ _ h; exact h) (Or.inl ⟨by rfl, ?_⟩) (by assumption) ?_
  rotate_left 1
  · intro w hSw; (try dsimp only at hSw); go_simp; try with_reducible rfl
  try simp only [Act.put, List.setIfInBounds_toArray, List.set_cons_zero, List.set_cons_succ]
  refine wpAnyH_take (i := 14) (v := ?_) (by simp only [List.getElem?_toArray, List.getElem?_cons_zero, List.getElem?_cons_succ]; rfl) (by kernel_rfl) (by kernel_rfl) (by kernel_rfl) (by intro _ _ _ h; exact h) (Or.inl ⟨by rfl, ?_⟩) (by assumption) ?_
  rotate_left 1
  · intro w hSw; (try dsimp only at hSw); go_simp; try with_reducible rfl
  try simp only [Act.put, List.setIfInBounds_toArray, List.set_cons_zero, List.set_cons_succ]
  refine wpAnyH_done (by kernel_rfl) ?_ _
  have HB := Lib.hid (Shm.Blk.old HB.out hHeld)
  have HO := Lib.hid (Shm.Blk.old HO.out hHeld)
  have HU := Lib.hid (HU.out.trans hHeld (fun _ _ h => h))
  have HA := Lib.hid (And.intro a1 a2)
  have HNA := Lib.hid hgn
  clear a1 a2 hgn hHeld
  go_upto_region 5 with fail
  have hBc := HB.out
  have hOc := HO.out
  refine wp_region_held_drew (S := fun w' => Upd Nowhere wB w') (by kernel_rfl) ((Upd.refl _ _).drew) (fun hHeld => ?_)
  refine tkq 0 (v := .agg (VC (cfS 1) (.slice (some ⟨gf, 0, none⟩) 2 2))) ?_ (hy := fun w h => exec_load (load_all (n := 11) (Shm.Blk.old hBc h) Tryz.underlying25 rfl (by kernel_rfl) rfl))
  refine wpAnyH_take (i := 1) (v := ?_) (by simp only [List.getElem?_toArray, List.getElem?_cons_zero, List.getElem?_cons_succ]; rfl) (by kernel_rfl) (by kernel_rfl) (by kernel_rfl) (by intro _ _ _ h; exact h) (Or.inl ⟨by rfl, ?_⟩) (by assumption) ?_
  rotate_left 1
  · intro w hSw; (try dsimp only at hSw); go_simp; try with_reducible rfl
  try simp only [Act.put, List.setIfInBounds_toArray, List.set_cons_zero, List.set_cons_succ]
  refine wpAnyH_take (i := 3) (v := ?_) (by simp only [List.getElem?_toArray, List.getElem?_cons_zero, List.getElem?_cons_succ]; rfl) (by kernel_rfl) (by kernel_rfl) (by kernel_rfl) (by intro _ _ _ h; exact h) (Or.inl ⟨by rfl, ?_⟩) (by assumption) ?_
  rotate_left 1
  · intro w hSw; (try dsimp only at hSw); go_simp; try with_reducible rfl
  try simp only [Act.put, List.setIfInBounds_toArray, List.set_cons_zero, List.set_cons_succ]
  refine wpAnyH_take (i := 5) (v := ?_) (by simp only [List.getElem?_toArray, List.getElem?_cons_zero, List.getElem?_cons_succ]; rfl) (by kernel_rfl) (by kernel_rfl) (by kernel_rfl) (by intro _ _ _ h; exact h) (Or.inl ⟨by rfl, ?_⟩) (by assumption) ?_
  rotate_left 1
  · intro w hSw; (try dsimp only at hSw); go_simp; try with_reducible rfl
  try simp only [Act.put, List.setIfInBounds_toArray, List.set_cons_zero, List.set_cons_succ]
  refine tkq 7 (v := .agg outV) ?_ (hy := fun w h => exec_load (load_all (n := 5) (Shm.Blk.old hOc h) Tryz.underlying50 rfl (by kernel_rfl) rfl))
  refine wpAnyH_ready (rs := [2]) (by kernel_rfl) (by simp) ?_
  refine AllReadyH.cons (by simp only [List.getElem?_toArray, List.getElem?_cons_zero, List.getElem?_cons_succ]; rfl) (fun K hK => ?_) AllReadyH.nil
  go_simp
  go_wp2_with (refine (HOP 1 1 _).out.mono ?_; rintro e wo0 ⟨rfl, u0⟩)
  refine hK.out _ _ (by (try dsimp only); exact hHeld.trans u0 (fun _ _ h => h)) (fun hHeld => ?_)
  clear hK K
  refine wpAnyH_ready (rs := [4]) (by kernel_rfl) (by simp) ?_
  refine AllReadyH.cons (by simp only [List.getElem?_toArray, List.getElem?_cons_zero, List.getElem?_cons_succ]; rfl) (fun K hK => ?_) AllReadyH.nil
  go_simp
  go_wp2_with (refine (HOP 2 2 _).out.mono ?_; rintro e wo1 ⟨rfl, u1⟩)
  refine hK.out _ _ (by (try dsimp only); exact hHeld.trans u1 (fun _ _ h => h)) (fun hHeld => ?_)
  clear hK K
  refine wpAnyH_ready (rs := [6]) (by kernel_rfl) (by simp) ?_
  refine AllReadyH.cons (by simp only [List.getElem?_toArray, List.getElem?_cons_zero, List.getElem?_cons_succ]; rfl) (fun K hK => ?_) AllReadyH.nil
  go_simp
  go_wp2_with (refine (HOP 1 3 _).out.mono ?_; rintro e wo2 ⟨rfl, u2⟩)
  refine hK.out _ _ (by (try dsimp only); exact hHeld.trans u2 (fun _ _ h => h)) (fun hHeld => ?_)
  clear hK K
  refine wpAnyH_ready (rs := [8]) (by kernel_rfl) (by simp) ?_
  refine AllReadyH.cons (by simp only [List.getElem?_toArray, List.getElem?_cons_zero, List.getElem?_cons_succ]; rfl) (fun K hK => ?_) AllReadyH.nil
  go_simp
  refine hK.out _ _ (by (try dsimp only); exact hHeld.alloc _) (fun hHeld => ?_)
  clear hK K
  have hNO := Blk.new wo2 lvV TOp
  have HRN := Lib.hid (run_h (gf := gf) (HF.out.old (HU.out.trans hHeld (fun _ _ h => h))) hNO)
  refine wpAnyH_ready (rs := [9]) (by kernel_rfl) (by simp) ?_
  refine AllReadyH.cons (by simp only [List.getElem?_toArray, List.getElem?_cons_zero, List.getElem?_cons_succ]; rfl) (fun K hK => ?_) AllReadyH.nil
  go_simp
  go_wp2_with (refine HRN.out.mono ?_; rintro e wC ⟨gb, cb, rfl, a1, a2, hgn, ur⟩; have hgn : pb ≠ gb := (by have h1 := hHeld.size; have h2 := Blk.lt hBc; omega))
  refine hK.out _ _ (by (try dsimp only); exact hHeld.trans ur (fun _ _ h => h)) (fun hHeld => ?_)
  clear hK K
  refine wpAnyH_take (i := 10) (v := ?_) (by simp only [List.getElem?_toArray, List.getElem?_cons_zero, List.getElem?_cons_succ]; rfl) (by kernel_rfl) (by kernel_rfl) (by kernel_rfl) (by intro _ _ _ h; exact h) (Or.inl ⟨by rfl, ?_⟩) (by assumption) ?_
  rotate_left 1
  · intro w hSw; (try dsimp only at hSw); go_simp; try with_reducible rfl
  try simp only [Act.put, List.setIfInBounds_toArray, List.set_cons_zero, List.set_cons_succ]
  refine wpAnyH_take (i := 11) (v := ?_) (by simp only [List.getElem?_toArray, List.getElem?_cons_zero, List.getElem?_cons_succ]; rfl) (by kernel_rfl) (by kernel_rfl) (by kernel_rfl) (by intro _ _ _ h; exact h) (Or.inl ⟨by rfl, ?_⟩) (by assumption) ?_
  rotate_left 1
  · intro w hSw; (try dsimp only at hSw); go_simp; try with_reducible rfl
  try simp only [Act.put, List.setIfInBounds_toArray, List.set_cons_zero, List.set_cons_succ]
  refine wpAnyH_take (i := 12) (v := ?_) (by simp only [List.getElem?_toArray, List.getElem?_cons_zero, List.getElem?_cons_succ]; rfl) (by kernel_rfl) (by kernel_rfl) (by kernel_rfl) (by intro _ _ _ h; exact h) (Or.inl ⟨by rfl, ?_⟩) (by assumption) ?_
  rotate_left 1
  · intro w hSw; (try dsimp only at hSw); go_simp; try with_reducible rfl
  try simp only [Act.put, List.setIfInBounds_toArray, List.set_cons_zero, List.set_cons_succ]
  refine wpAnyH_take (i := 13) (v := ?_) (by simp only [List.getElem?_toArray, List.getElem?_cons_zero, List.getElem?_cons_succ]; rfl) (by kernel_rfl) (by kernel_rfl) (by kernel_rfl) (by intro _ _ _ h; exact h) (Or.inl ⟨by rfl, ?_⟩) (by assumption) ?_
  rotate_left 1
  · intro w hSw; (try dsimp only at hSw); go_simp; try with_reducible rfl
  try simp only [Act.put, List.setIfInBounds_toArray, List.set_cons_zero, List.set_cons_succ]
  refine wpAnyH_take (i := 14) (v := ?_) (by simp only [List.getElem?_toArray, List.getElem?_cons_zero, List.getElem?_cons_succ]; rfl) (by kernel_rfl) (by kernel_rfl) (by kernel_rfl) (by intro _ _ _ h; exact h) (Or.inl ⟨by rfl, ?_⟩) (by assumption) ?_
  rotate_left 1
  · intro w hSw; (try dsimp only at hSw); go_simp; try with_reducible rfl
  try simp only [Act.put, List.setIfInBounds_toArray, List.set_cons_zero, List.set_cons_succ]
  refine wpAnyH_done (by kernel_rfl) ?_ _
  have HA := Lib.hid (And.intro (cell_old hHeld HA.out.1) (cell_old hHeld HA.out.2))
  have HB := Lib.hid (Shm.Blk.old HB.out hHeld)
  have HO := Lib.hid (Shm.Blk.old HO.out hHeld)
  have HU := Lib.hid (HU.out.trans hHeld (fun _ _ h => h))
  have HBB := Lib.hid (And.intro a1 a2)
  have HNB := Lib.hid hgn
  clear a1 a2 hgn hHeld
  obtain ⟨q0, q1, q2, q3, q4, q5, q6, q7, q8, q9, q10⟩ := cgs HB.out
  have z3 := HB.out.free 3
  have hB3 : Blk (wC.setCell ⟨pb, 3, none⟩ (.int .i64 1)) pb (VC (cfT 1) (.slice (some ⟨gf, 0, none⟩) 2 2)) TCg := HB.out.set 3 _
  have hO3 := HO.out.setOther (a := ⟨pb, 3, none⟩) (fun e => HPB.out.2 e) (.int .i64 1)
  have hU3 : Upd (fun k => k = pb) wC (wC.setCell ⟨pb, 3, none⟩ (.int .i64 1)) := (Upd.refl (fun k => k = pb) wC).setOne 3 _
  have HU := Lib.hid (HU.out.setNew (a := ⟨pb, 3, none⟩) HPB.out.1 (.int .i64 1))
  go_upto_region 7 with fail
  have HA := Lib.hid (And.intro ((Upd.cell hU3 129 (cell_lt HA.out.1) (fun e => HNA.out e.symm)).trans HA.out.1) ((Upd.cell hU3 131 (cell_lt HA.out.2) (fun e => HNA.out e.symm)).trans HA.out.2))
  have HBB := Lib.hid (And.intro ((Upd.cell hU3 129 (cell_lt HBB.out.1) (fun e => HNB.out e.symm)).trans HBB.out.1) ((Upd.cell hU3 131 (cell_lt HBB.out.2) (fun e => HNB.out e.symm)).trans HBB.out.2))
  have HB := Lib.hid hB3
  have HO := Lib.hid hO3
  clear hB3 hO3 hU3 q0 q1 q2 q3 q4 q5 q6 q7 q8 q9 q10 z3 HNA HNB
  generalize wC.setCell ⟨pb, 3, none⟩ (.int .i64 1) = wD at *
  have hBc := HB.out
  have hOc := HO.out
  refine wp_region_held_drew (S := fun w' => Upd Nowhere wD w') (by kernel_rfl) ((Upd.refl _ _).drew) (fun hHeld => ?_)
  refine tkq 0 (v := .agg (VC (cfT 1) (.slice (some ⟨gf, 0, none⟩) 2 2))) ?_ (hy := fun w h => exec_load (load_all (n := 11) (Shm.Blk.old hBc h) Tryz.underlying25 rfl (by kernel_rfl) rfl))
  refine wpAnyH_take (i := 1) (v := ?_) (by simp only [List.getElem?_toArray, List.getElem?_cons_zero, List.getElem?_cons_succ]; rfl) (by kernel_rfl) (by kernel_rfl) (by kernel_rfl) (by intro _ _ _ h; exact h) (Or.inl ⟨by rfl, ?_⟩) (by assumption) ?_
  rotate_left 1
  · intro w hSw; (try dsimp only at hSw); go_simp; try with_reducible rfl
  try simp only [Act.put, List.setIfInBounds_toArray, List.set_cons_zero, List.set_cons_succ]
  refine wpAnyH_take (i := 3) (v := ?_) (by simp only [List.getElem?_toArray, List.getElem?_cons_zero, List.getElem?_cons_succ]; rfl) (by kernel_rfl) (by kernel_rfl) (by kernel_rfl) (by intro _ _ _ h; exact h) (Or.inl ⟨by rfl, ?_⟩) (by assumption) ?_
  rotate_left 1
  · intro w hSw; (try dsimp only at hSw); go_simp; try with_reducible rfl
  try simp only [Act.put, List.setIfInBounds_toArray, List.set_cons_zero, List.set_cons_succ]
  refine tkq 5 (v := .agg outV) ?_ (hy := fun w h => exec_load (load_all (n := 5) (Shm.Blk.old hOc h) Tryz.underlying50 rfl (by kernel_rfl) rfl))
  refine wpAnyH_ready (rs := [2]) (by kernel_rfl) (by simp) ?_
  refine AllReadyH.cons (by simp only [List.getElem?_toArray, List.getElem?_cons_zero, List.getElem?_cons_succ]; rfl) (fun K hK => ?_) AllReadyH.nil
  go_simp
  go_wp2_with (refine (HOP 2 1 _).out.mono ?_; rintro e wo0 ⟨rfl, u0⟩)
  refine hK.out _ _ (by (try dsimp only); exact hHeld.trans u0 (fun _ _ h => h)) (fun hHeld => ?_)
  clear hK K
  refine wpAnyH_ready (rs := [4]) (by kernel_rfl) (by simp) ?_
  refine AllReadyH.cons (by simp only [List.getElem?_toArray, List.getElem?_cons_zero, List.getElem?_cons_succ]; rfl) (fun K hK => ?_) AllReadyH.nil
  go_simp
  go_wp2_with (refine (HOP 1 2 _).out.mono ?_; rintro e wo1 ⟨rfl, u1⟩)
  refine hK.out _ _ (by (try dsimp only); exact hHeld.trans u1 (fun _ _ h => h)) (fun hHeld => ?_)
  clear hK K
  refine wpAnyH_ready (rs := [6]) (by kernel_rfl) (by simp) ?_
  refine AllReadyH.cons (by simp only [List.getElem?_toArray, List.getElem?_cons_zero, List.getElem?_cons_succ]; rfl) (fun K hK => ?_) AllReadyH.nil
  go_simp
  refine hK.out _ _ (by (try dsimp only); exact hHeld.alloc _) (fun hHeld => ?_)
  clear hK K
  have hNO := Blk.new wo1 tnV TOp
  have HRN := Lib.hid (run_d (gf := gf) (HF.out.old (HU.out.trans hHeld (fun _ _ h => h))) hNO)
  refine wpAnyH_ready (rs := [7]) (by kernel_rfl) (by simp) ?_
  refine AllReadyH.cons (by simp only [List.getElem?_toArray, List.getElem?_cons_zero, List.getElem?_cons_succ]; rfl) (fun K hK => ?_) AllReadyH.nil
  go_simp
  go_wp2_with (refine HRN.out.mono ?_; rintro e wE ⟨gd, cd, rfl, a1, a2, hgn, ur⟩; have hgn : pb ≠ gd := (by have h1 := hHeld.size; have h2 := Blk.lt hBc; omega))
  refine hK.out _ _ (by (try dsimp only); exact hHeld.trans ur (fun _ _ h => h)) (fun hHeld => ?_)
  clear hK K
  refine wpAnyH_take (i := 8) (v := ?_) (by simp only [List.getElem?_toArray, List.getElem?_cons_zero, List.getElem?_cons_succ]; rfl) (by kernel_rfl) (by kernel_rfl) (by kernel_rfl) (by intro _ _ _ h; exact h) (Or.inl ⟨by rfl, ?_⟩) (by assumption) ?_
  rotate_left 1
  · intro w hSw; (try dsimp only at hSw); go_simp; try with_reducible rfl
  try simp only [Act.put, List.setIfInBounds_toArray, List.set_cons_zero, List.set_cons_succ]
  refine wpAnyH_take (i := 9) (v := ?_) (by simp only [List.getElem?_toArray, List.getElem?_cons_zero, List.getElem?_cons_succ]; rfl) (by kernel_rfl) (by kernel_rfl) (by kernel_rfl) (by intro _ _ _ h; exact h) (Or.inl ⟨by rfl, ?_⟩) (by assumption) ?_
  rotate_left 1
  · intro w hSw; (try dsimp only at hSw); go_simp; try with_reducible rfl
  try simp only [Act.put, List.setIfInBounds_toArray, List.set_cons_zero, List.set_cons_succ]
  refine wpAnyH_take (i := 10) (v := ?_) (by simp only [List.getElem?_toArray, List.getElem?_cons_zero, List.getElem?_cons_succ]; rfl) (by kernel_rfl) (by kernel_rfl) (by kernel_rfl) (by intro _ _ _ h; exact h) (Or.inl ⟨by rfl, ?_⟩) (by assumption) ?_
  rotate_left 1
  · intro w hSw; (try dsimp only at hSw); go_simp; try with_reducible rfl
  try simp only [Act.put, List.setIfInBounds_toArray, List.set_cons_zero, List.set_cons_succ]
  refine wpAnyH_take (i := 11) (v := ?_) (by simp only [List.getElem?_toArray, List.getElem?_cons_zero, List.getElem?_cons_succ]; rfl) (by kernel_rfl) (by kernel_rfl) (by kernel_rfl) (by intro _ _ _ h; exact h) (Or.inl ⟨by rfl, ?_⟩) (by assumption) ?_
  rotate_left 1
  · intro w hSw; (try dsimp only at hSw); go_simp; try with_reducible rfl
  try simp only [Act.put, List.setIfInBounds_toArray, List.set_cons_zero, List.set_cons_succ]
  refine wpAnyH_take (i := 12) (v := ?_) (by simp only [List.getElem?_toArray, List.getElem?_cons_zero, List.getElem?_cons_succ]; rfl) (by kernel_rfl) (by kernel_rfl) (by kernel_rfl) (by intro _ _ _ h; exact h) (Or.inl ⟨by rfl, ?_⟩) (by assumption) ?_
  rotate_left 1
  · intro w hSw; (try dsimp only at hSw); go_simp; try with_reducible rfl
  try simp only [Act.put, List.setIfInBounds_toArray, List.set_cons_zero, List.set_cons_succ]
  refine wpAnyH_done (by kernel_rfl) ?_ _
  have HA := Lib.hid (And.intro (cell_old hHeld HA.out.1) (cell_old hHeld HA.out.2))
  have HBB := Lib.hid (And.intro (cell_old hHeld HBB.out.1) (cell_old hHeld HBB.out.2))
  have HB := Lib.hid (Shm.Blk.old HB.out hHeld)
  have HO := Lib.hid (Shm.Blk.old HO.out hHeld)
  have HU := Lib.hid (HU.out.trans hHeld (fun _ _ h => h))
  have HD := Lib.hid (And.intro a1 a2)
  clear a1 a2 hgn hHeld
  go_upto_region 8 with fail
  have hBc := HB.out
  have hOc := HO.out
  refine wp_region_held_drew (S := fun w' => Upd Nowhere wE w') (by kernel_rfl) ((Upd.refl _ _).drew) (fun hHeld => ?_)
  refine tkq 0 (v := .agg (VC (cfT 1) (.slice (some ⟨gf, 0, none⟩) 2 2))) ?_ (hy := fun w h => exec_load (load_all (n := 11) (Shm.Blk.old hBc h) Tryz.underlying25 rfl (by kernel_rfl) rfl))
  refine wpAnyH_take (i := 1) (v := ?_) (by simp only [List.getElem?_toArray, List.getElem?_cons_zero, List.getElem?_cons_succ]; rfl) (by kernel_rfl) (by kernel_rfl) (by kernel_rfl) (by intro _ _ _ h; exact h) (Or.inl ⟨by rfl, ?_⟩) (by assumption) ?_
  rotate_left 1
  · intro w hSw; (try dsimp only at hSw); go_simp; try with_reducible rfl
  try simp only [Act.put, List.setIfInBounds_toArray, List.set_cons_zero, List.set_cons_succ]
  refine wpAnyH_take (i := 3) (v := ?_) (by simp only [List.getElem?_toArray, List.getElem?_cons_zero, List.getElem?_cons_succ]; rfl) (by kernel_rfl) (by kernel_rfl) (by kernel_rfl) (by intro _ _ _ h; exact h) (Or.inl ⟨by rfl, ?_⟩) (by assumption) ?_
  rotate_left 1
  · intro w hSw; (try dsimp only at hSw); go_simp; try with_reducible rfl
  try simp only [Act.put, List.setIfInBounds_toArray, List.set_cons_zero, List.set_cons_succ]
  refine tkq 5 (v := .agg outV) ?_ (hy := fun w h => exec_load (load_all (n := 5) (Shm.Blk.old hOc h) Tryz.underlying50 rfl (by kernel_rfl) rfl))
  refine wpAnyH_ready (rs := [2]) (by kernel_rfl) (by simp) ?_
  refine AllReadyH.cons (by simp only [List.getElem?_toArray, List.getElem?_cons_zero, List.getElem?_cons_succ]; rfl) (fun K hK => ?_) AllReadyH.nil
  go_simp
  go_wp2_with (refine (HOP 2 1 _).out.mono ?_; rintro e wo0 ⟨rfl, u0⟩)
  refine hK.out _ _ (by (try dsimp only); exact hHeld.trans u0 (fun _ _ h => h)) (fun hHeld => ?_)
  clear hK K
  refine wpAnyH_ready (rs := [4]) (by kernel_rfl) (by simp) ?_
  refine AllReadyH.cons (by simp only [List.getElem?_toArray, List.getElem?_cons_zero, List.getElem?_cons_succ]; rfl) (fun K hK => ?_) AllReadyH.nil
  go_simp
  go_wp2_with (refine (HOP 1 2 _).out.mono ?_; rintro e wo1 ⟨rfl, u1⟩)
  refine hK.out _ _ (by (try dsimp only); exact hHeld.trans u1 (fun _ _ h => h)) (fun hHeld => ?_)
  clear hK K
  refine wpAnyH_ready (rs := [6]) (by kernel_rfl) (by simp) ?_
  refine AllReadyH.cons (by simp only [List.getElem?_toArray, List.getElem?_cons_zero, List.getElem?_cons_succ]; rfl) (fun K hK => ?_) AllReadyH.nil
  go_simp
  refine hK.out _ _ (by (try dsimp only); exact hHeld.alloc _) (fun hHeld => ?_)
  clear hK K
  have hNO := Blk.new wo1 tnV TOp
  have HRN := Lib.hid (run_c (gf := gf) (HF.out.old (HU.out.trans hHeld (fun _ _ h => h))) hNO)
  refine wpAnyH_ready (rs := [7]) (by kernel_rfl) (by simp) ?_
  refine AllReadyH.cons (by simp only [List.getElem?_toArray, List.getElem?_cons_zero, List.getElem?_cons_succ]; rfl) (fun K hK => ?_) AllReadyH.nil
  go_simp
  go_wp2_with (refine HRN.out.mono ?_; rintro e wF ⟨ge, ce, rfl, e1, e2, hgn, ur⟩; have hgn : pb ≠ ge := (by have h1 := hHeld.size; have h2 := Blk.lt hBc; omega))
  refine hK.out _ _ (by (try dsimp only); exact hHeld.trans ur (fun _ _ h => h)) (fun hHeld => ?_)
  clear hK K
  refine wpAnyH_take (i := 8) (v := ?_) (by simp only [List.getElem?_toArray, List.getElem?_cons_zero, List.getElem?_cons_succ]; rfl) (by kernel_rfl) (by kernel_rfl) (by kernel_rfl) (by intro _ _ _ h; exact h) (Or.inl ⟨by rfl, ?_⟩) (by assumption) ?_
  rotate_left 1
  · intro w hSw; (try dsimp only at hSw); go_simp; try with_reducible rfl
  try simp only [Act.put, List.setIfInBounds_toArray, List.set_cons_zero, List.set_cons_succ]
  refine wpAnyH_take (i := 9) (v := ?_) (by simp only [List.getElem?_toArray, List.getElem?_cons_zero, List.getElem?_cons_succ]; rfl) (by kernel_rfl) (by kernel_rfl) (by kernel_rfl) (by intro _ _ _ h; exact h) (Or.inl ⟨by rfl, ?_⟩) (by assumption) ?_
  rotate_left 1
  · intro w hSw; (try dsimp only at hSw); go_simp; try with_reducible rfl
  try simp only [Act.put, List.setIfInBounds_toArray, List.set_cons_zero, List.set_cons_succ]
  refine wpAnyH_take (i := 10) (v := ?_) (by simp only [List.getElem?_toArray, List.getElem?_cons_zero, List.getElem?_cons_succ]; rfl) (by kernel_rfl) (by kernel_rfl) (by kernel_rfl) (by intro _ _ _ h; exact h) (Or.inl ⟨by rfl, ?_⟩) (by assumption) ?_
  rotate_left 1
  · intro w hSw; (try dsimp only at hSw); go_simp; try with_reducible rfl
  try simp only [Act.put, List.setIfInBounds_toArray, List.set_cons_zero, List.set_cons_succ]
  refine wpAnyH_take (i := 11) (v := ?_) (by simp only [List.getElem?_toArray, List.getElem?_cons_zero, List.getElem?_cons_succ]; rfl) (by kernel_rfl) (by kernel_rfl) (by kernel_rfl) (by intro _ _ _ h; exact h) (Or.inl ⟨by rfl, ?_⟩) (by assumption) ?_
  rotate_left 1
  · intro w hSw; (try dsimp only at hSw); go_simp; try with_reducible rfl
  try simp only [Act.put, List.setIfInBounds_toArray, List.set_cons_zero, List.set_cons_succ]
  refine wpAnyH_take (i := 12) (v := ?_) (by simp only [List.getElem?_toArray, List.getElem?_cons_zero, List.getElem?_cons_succ]; rfl) (by kernel_rfl) (by kernel_rfl) (by kernel_rfl) (by intro _ _ _ h; exact h) (Or.inl ⟨by rfl, ?_⟩) (by assumption) ?_
  rotate_left 1
  · intro w hSw; (try dsimp only at hSw); go_simp; try with_reducible rfl
  try simp only [Act.put, List.setIfInBounds_toArray, List.set_cons_zero, List.set_cons_succ]
  refine wpAnyH_done (by kernel_rfl) ?_ _
  have HA := Lib.hid (And.intro (cell_old hHeld HA.out.1) (cell_old hHeld HA.out.2))
  have HBB := Lib.hid (And.intro (cell_old hHeld HBB.out.1) (cell_old hHeld HBB.out.2))
  have HD := Lib.hid (And.intro (cell_old hHeld HD.out.1) (cell_old hHeld HD.out.2))
  have HB := Lib.hid (Shm.Blk.old HB.out hHeld)
  have HO := Lib.hid (Shm.Blk.old HO.out hHeld)
  have HU := Lib.hid (HU.out.trans hHeld (fun _ _ h => h))
  clear hHeld hgn
  obtain ⟨a1, a2⟩ := HA.out
  obtain ⟨b1, b2⟩ := HBB.out
  obtain ⟨d1, d2⟩ := HD.out
  go_upto_region 11 with fail
  refine wp_region_held_drew (S := fun w' => w'.cell? ⟨ga, 129, none⟩ = some (.int .u32 3) ∧ w'.cell? ⟨gb, 129, none⟩ = some (.int .u32 1) ∧ w'.cell? ⟨ga, 131, none⟩ = some (.int .u64 10) ∧ w'.cell? ⟨gb, 131, none⟩ = some (.int .u64 10) ∧ w'.cell? ⟨gd, 87, none⟩ = some (.int .u32 1) ∧ w'.cell? ⟨gd, 89, none⟩ = some (.int .u64 20) ∧ w'.cell? ⟨ge, 87, none⟩ = some (.int .u32 2) ∧ w'.cell? ⟨ge, 89, none⟩ = some (.int .u64 10)) (by kernel_rfl) ⟨a1, b1, a2, b2, d1, d2, e1, e2⟩ (fun hHeld => ?_)
  refine wpAnyH_take (i := 0) (v := ?_) (by simp only [List.getElem?_toArray, List.getElem?_cons_zero, List.getElem?_cons_succ]; rfl) (by kernel_rfl) (by kernel_rfl) (by kernel_rfl) (by intro _ _ _ h; exact h) (Or.inl ⟨by rfl, ?_⟩) (by assumption) ?_
  rotate_left 1
  · intro w hSw; (try dsimp only at hSw); go_simp; try with_reducible rfl
  try simp only [Act.put, List.setIfInBounds_toArray, List.set_cons_zero, List.set_cons_succ]
  refine wpAnyH_take (i := 1) (v := ?_) (by simp only [List.getElem?_toArray, List.getElem?_cons_zero, List.getElem?_cons_succ]; rfl) (by kernel_rfl) (by kernel_rfl) (by kernel_rfl) (by intro _ _ _ h; exact h) (Or.inl ⟨by rfl, ?_⟩) (by assumption) ?_
  rotate_left 1
  · intro w hSw; (try dsimp only at hSw); go_simp; try with_reducible rfl
  try simp only [Act.put, List.setIfInBounds_toArray, List.set_cons_zero, List.set_cons_succ]
  refine wpAnyH_take (i := 2) (v := ?_) (by simp only [List.getElem?_toArray, List.getElem?_cons_zero, List.getElem?_cons_succ]; rfl) (by kernel_rfl) (by kernel_rfl) (by kernel_rfl) (by intro _ _ _ h; exact h) (Or.inl ⟨by rfl, ?_⟩) (by assumption) ?_
  rotate_left 1
  · intro w hSw; (try dsimp only at hSw); go_simp; try with_reducible rfl
  try simp only [Act.put, List.setIfInBounds_toArray, List.set_cons_zero, List.set_cons_succ]
  refine wpAnyH_take (i := 3) (v := ?_) (by simp only [List.getElem?_toArray, List.getElem?_cons_zero, List.getElem?_cons_succ]; rfl) (by kernel_rfl) (by kernel_rfl) (by kernel_rfl) (by intro _ _ _ h; exact h) (Or.inl ⟨by rfl, ?_⟩) (by assumption) ?_
  rotate_left 1
  · intro w hSw; (try dsimp only at hSw); go_simp; try with_reducible rfl
  try simp only [Act.put, List.setIfInBounds_toArray, List.set_cons_zero, List.set_cons_succ]
  refine wpAnyH_take (i := 4) (v := ?_) (by simp only [List.getElem?_toArray, List.getElem?_cons_zero, List.getElem?_cons_succ]; rfl) (by kernel_rfl) (by kernel_rfl) (by kernel_rfl) (by intro _ _ _ h; exact h) (Or.inl ⟨by rfl, ?_⟩) (by assumption) ?_
  rotate_left 1
  · intro w hSw; (try dsimp only at hSw); go_simp; try with_reducible rfl
  try simp only [Act.put, List.setIfInBounds_toArray, List.set_cons_zero, List.set_cons_succ]
  refine wpAnyH_take (i := 5) (v := ?_) (by simp only [List.getElem?_toArray, List.getElem?_cons_zero, List.getElem?_cons_succ]; rfl) (by kernel_rfl) (by kernel_rfl) (by kernel_rfl) (by intro _ _ _ h; exact h) (Or.inl ⟨by rfl, ?_⟩) (by assumption) ?_
  rotate_left 1
  · intro w hSw; (try dsimp only at hSw); go_simp; try with_reducible rfl
  try simp only [Act.put, List.setIfInBounds_toArray, List.set_cons_zero, List.set_cons_succ]
  refine wpAnyH_take (i := 6) (v := ?_) (by simp only [List.getElem?_toArray, List.getElem?_cons_zero, List.getElem?_cons_succ]; rfl) (by kernel_rfl) (by kernel_rfl) (by kernel_rfl) (by intro _ _ _ h; exact h) (Or.inl ⟨by rfl, ?_⟩) (by assumption) ?_
  rotate_left 1
  · intro w hSw; (try dsimp only at hSw); go_simp; try with_reducible rfl
  try simp only [Act.put, List.setIfInBounds_toArray, List.set_cons_zero, List.set_cons_succ]
  refine wpAnyH_take (i := 7) (v := ?_) (by simp only [List.getElem?_toArray, List.getElem?_cons_zero, List.getElem?_cons_succ]; rfl) (by kernel_rfl) (by kernel_rfl) (by kernel_rfl) (by intro _ _ _ h; exact h) (Or.inl ⟨by rfl, ?_⟩) (by assumption) ?_
  rotate_left 1
  · intro w hSw; (try dsimp only at hSw); go_simp; try with_reducible rfl
  try simp only [Act.put, List.setIfInBounds_toArray, List.set_cons_zero, List.set_cons_succ]
  refine wpAnyH_take (i := 8) (v := ?_) (by simp only [List.getElem?_toArray, List.getElem?_cons_zero, List.getElem?_cons_succ]; rfl) (by kernel_rfl) (by kernel_rfl) (by kernel_rfl) (by intro _ _ _ h; exact h) (Or.inl ⟨by rfl, ?_⟩) (by assumption) ?_
  rotate_left 1
  · intro w hSw; (try dsimp only at hSw); go_simp; try with_reducible rfl
  try simp only [Act.put, List.setIfInBounds_toArray, List.set_cons_zero, List.set_cons_succ]
  refine wpAnyH_take (i := 9) (v := ?_) (by simp only [List.getElem?_toArray, List.getElem?_cons_zero, List.getElem?_cons_succ]; rfl) (by kernel_rfl) (by kernel_rfl) (by kernel_rfl) (by intro _ _ _ h; exact h) (Or.inl ⟨by rfl, ?_⟩) (by assumption) ?_
  rotate_left 1
  · intro w hSw; (try dsimp only at hSw); go_simp; try with_reducible rfl
  try simp only [Act.put, List.setIfInBounds_toArray, List.set_cons_zero, List.set_cons_succ]
  refine wpAnyH_take (i := 10) (v := ?_) (by simp only [List.getElem?_toArray, List.getElem?_cons_zero, List.getElem?_cons_succ]; rfl) (by kernel_rfl) (by kernel_rfl) (by kernel_rfl) (by intro _ _ _ h; exact h) (Or.inl ⟨by rfl, ?_⟩) (by assumption) ?_
  rotate_left 1
  · intro w hSw; (try dsimp only at hSw); go_simp; try with_reducible rfl
  try simp only [Act.put, List.setIfInBounds_toArray, List.set_cons_zero, List.set_cons_succ]
  refine wpAnyH_take (i := 11) (v := ?_) (by simp only [List.getElem?_toArray, List.getElem?_cons_zero, List.getElem?_cons_succ]; rfl) (by kernel_rfl) (by kernel_rfl) (by kernel_rfl) (by intro _ _ _ h; exact h) (Or.inl ⟨by rfl, ?_⟩) (by assumption) ?_
  rotate_left 1
  · intro w hSw; (try dsimp only at hSw); go_simp; try with_reducible rfl
  try simp only [Act.put, List.setIfInBounds_toArray, List.set_cons_zero, List.set_cons_succ]
  refine wpAnyH_take (i := 12) (v := ?_) (by simp only [List.getElem?_toArray, List.getElem?_cons_zero, List.getElem?_cons_succ]; rfl) (by kernel_rfl) (by kernel_rfl) (by kernel_rfl) (by intro _ _ _ h; exact h) (Or.inl ⟨by rfl, ?_⟩) (by assumption) ?_
  rotate_left 1
  · intro w hSw; (try dsimp only at hSw); go_simp; try with_reducible rfl
  try simp only [Act.put, List.setIfInBounds_toArray, List.set_cons_zero, List.set_cons_succ]
  refine wpAnyH_take (i := 13) (v := ?_) (by simp only [List.getElem?_toArray, List.getElem?_cons_zero, List.getElem?_cons_succ]; rfl) (by kernel_rfl) (by kernel_rfl) (by kernel_rfl) (by intro _ _ _ h; exact h) (Or.inl ⟨by rfl, ?_⟩) (by assumption) ?_
  rotate_left 1
  · intro w hSw; (try dsimp only at hSw); go_simp; try with_reducible rfl
  try simp only [Act.put, List.setIfInBounds_toArray, List.set_cons_zero, List.set_cons_succ]
  refine wpAnyH_take (i := 14) (v := ?_) (by simp only [List.getElem?_toArray, List.getElem?_cons_zero, List.getElem?_cons_succ]; rfl) (by kernel_rfl) (by kernel_rfl) (by kernel_rfl) (by intro _ _ _ h; exact h) (Or.inl ⟨by rfl, ?_⟩) (by assumption) ?_
  rotate_left 1
  · intro w hSw; (try dsimp only at hSw); go_simp; try with_reducible rfl
  try simp only [Act.put, List.setIfInBounds_toArray, List.set_cons_zero, List.set_cons_succ]
  refine wpAnyH_take (i := 15) (v := ?_) (by simp only [List.getElem?_toArray, List.getElem?_cons_zero, List.getElem?_cons_succ]; rfl) (by kernel_rfl) (by kernel_rfl) (by kernel_rfl) (by intro _ _ _ h; exact h) (Or.inl ⟨by rfl, ?_⟩) (by assumption) ?_
  rotate_left 1
  · intro w hSw; (try dsimp only at hSw); go_simp; try with_reducible rfl
  try simp only [Act.put, List.setIfInBounds_toArray, List.set_cons_zero, List.set_cons_succ]
  refine wpAnyH_take (i := 16) (v := ?_) (by simp only [List.getElem?_toArray, List.getElem?_cons_zero, List.getElem?_cons_succ]; rfl) (by kernel_rfl) (by kernel_rfl) (by kernel_rfl) (by intro _ _ _ h; exact h) (Or.inl ⟨by rfl, ?_⟩) (by assumption) ?_
  rotate_left 1
  · intro w hSw; (try dsimp only at hSw); go_simp; try with_reducible rfl
  try simp only [Act.put, List.setIfInBounds_toArray, List.set_cons_zero, List.set_cons_succ]
  refine wpAnyH_take (i := 17) (v := ?_) (by simp only [List.getElem?_toArray, List.getElem?_cons_zero, List.getElem?_cons_succ]; rfl) (by kernel_rfl) (by kernel_rfl) (by kernel_rfl) (by intro _ _ _ h; exact h) (Or.inl ⟨by rfl, ?_⟩) (by assumption) ?_
  rotate_left 1
  · intro w hSw; (try dsimp only at hSw); go_simp; try with_reducible rfl
  try simp only [Act.put, List.setIfInBounds_toArray, List.set_cons_zero, List.set_cons_succ]
  refine wpAnyH_take (i := 18) (v := ?_) (by simp only [List.getElem?_toArray, List.getElem?_cons_zero, List.getElem?_cons_succ]; rfl) (by kernel_rfl) (by kernel_rfl) (by kernel_rfl) (by intro _ _ _ h; exact h) (Or.inl ⟨by rfl, ?_⟩) (by assumption) ?_
  rotate_left 1
  · intro w hSw; (try dsimp only at hSw); go_simp; try with_reducible rfl
  try simp only [Act.put, List.setIfInBounds_toArray, List.set_cons_zero, List.set_cons_succ]
  refine wpAnyH_take (i := 19) (v := ?_) (by simp only [List.getElem?_toArray, List.getElem?_cons_zero, List.getElem?_cons_succ]; rfl) (by kernel_rfl) (by kernel_rfl) (by kernel_rfl) (by intro _ _ _ h; exact h) (Or.inl ⟨by rfl, ?_⟩) (by assumption) ?_
  rotate_left 1
  · intro w hSw; (try dsimp only at hSw); go_simp; try with_reducible rfl
  try simp only [Act.put, List.setIfInBounds_toArray, List.set_cons_zero, List.set_cons_succ]
  refine wpAnyH_take (i := 20) (v := ?_) (by simp only [List.getElem?_toArray, List.getElem?_cons_zero, List.getElem?_cons_succ]; rfl) (by kernel_rfl) (by kernel_rfl) (by kernel_rfl) (by intro _ _ _ h; exact h) (Or.inl ⟨by rfl, ?_⟩) (by assumption) ?_
  rotate_left 1
  · intro w hSw; (try dsimp only at hSw); go_simp; try with_reducible rfl
  try simp only [Act.put, List.setIfInBounds_toArray, List.set_cons_zero, List.set_cons_succ]
  refine wpAnyH_take (i := 21) (v := ?_) (by simp only [List.getElem?_toArray, List.getElem?_cons_zero, List.getElem?_cons_succ]; rfl) (by kernel_rfl) (by kernel_rfl) (by kernel_rfl) (by intro _ _ _ h; exact h) (Or.inl ⟨by rfl, ?_⟩) (by assumption) ?_
  rotate_left 1
  · intro w hSw; (try dsimp only at hSw); go_simp; try with_reducible rfl
  try simp only [Act.put, List.setIfInBounds_toArray, List.set_cons_zero, List.set_cons_succ]
  refine wpAnyH_take (i := 22) (v := ?_) (by simp only [List.getElem?_toArray, List.getElem?_cons_zero, List.getElem?_cons_succ]; rfl) (by kernel_rfl) (by kernel_rfl) (by kernel_rfl) (by intro _ _ _ h; exact h) (Or.inl ⟨by rfl, ?_⟩) (by assumption) ?_
  rotate_left 1
  · intro w hSw; (try dsimp only at hSw); go_simp; try with_reducible rfl
  try simp only [Act.put, List.setIfInBounds_toArray, List.set_cons_zero, List.set_cons_succ]
  refine wpAnyH_take (i := 23) (v := ?_) (by simp only [List.getElem?_toArray, List.getElem?_cons_zero, List.getElem?_cons_succ]; rfl) (by kernel_rfl) (by kernel_rfl) (by kernel_rfl) (by intro _ _ _ h; exact h) (Or.inl ⟨by rfl, ?_⟩) (by assumption) ?_
  rotate_left 1
  · intro w hSw; (try dsimp only at hSw); go_simp; try with_reducible rfl
  try simp only [Act.put, List.setIfInBounds_toArray, List.set_cons_zero, List.set_cons_succ]
  refine wpAnyH_take (i := 24) (v := ?_) (by simp only [List.getElem?_toArray, List.getElem?_cons_zero, List.getElem?_cons_succ]; rfl) (by kernel_rfl) (by kernel_rfl) (by kernel_rfl) (by intro _ _ _ h; exact h) (Or.inl ⟨by rfl, ?_⟩) (by assumption) ?_
  rotate_left 1
  · intro w hSw; (try dsimp only at hSw); go_simp; try with_reducible rfl
  try simp only [Act.put, List.setIfInBounds_toArray, List.set_cons_zero, List.set_cons_succ]
  refine wpAnyH_take (i := 25) (v := ?_) (by simp only [List.getElem?_toArray, List.getElem?_cons_zero, List.getElem?_cons_succ]; rfl) (by kernel_rfl) (by kernel_rfl) (by kernel_rfl) (by intro _ _ _ h; exact h) (Or.inl ⟨by rfl, ?_⟩) (by assumption) ?_
  rotate_left 1
  · intro w hSw; (try dsimp only at hSw); go_simp; try with_reducible rfl
  try simp only [Act.put, List.setIfInBounds_toArray, List.set_cons_zero, List.set_cons_succ]
  refine wpAnyH_take (i := 26) (v := ?_) (by simp only [List.getElem?_toArray, List.getElem?_cons_zero, List.getElem?_cons_succ]; rfl) (by kernel_rfl) (by kernel_rfl) (by kernel_rfl) (by intro _ _ _ h; exact h) (Or.inl ⟨by rfl, ?_⟩) (by assumption) ?_
  rotate_left 1
  · intro w hSw; (try dsimp only at hSw); go_simp; try with_reducible rfl
  try simp only [Act.put, List.setIfInBounds_toArray, List.set_cons_zero, List.set_cons_succ]
  refine wpAnyH_take (i := 27) (v := ?_) (by simp only [List.getElem?_toArray, List.getElem?_cons_zero, List.getElem?_cons_succ]; rfl) (by kernel_rfl) (by kernel_rfl) (by kernel_rfl) (by intro _ _ _ h; exact h) (Or.inl ⟨by rfl, ?_⟩) (by assumption) ?_
  rotate_left 1
  · intro w hSw; (try dsimp only at hSw); go_simp; try with_reducible rfl
  try simp only [Act.put, List.setIfInBounds_toArray, List.set_cons_zero, List.set_cons_succ]
  refine wpAnyH_take (i := 28) (v := ?_) (by simp only [List.getElem?_toArray, List.getElem?_cons_zero, List.getElem?_cons_succ]; rfl) (by kernel_rfl) (by kernel_rfl) (by kernel_rfl) (by intro _ _ _ h; exact h) (Or.inl ⟨by rfl, ?_⟩) (by assumption) ?_
  rotate_left 1
  · intro w hSw; (try dsimp only at hSw); go_simp; try with_reducible rfl
  try simp only [Act.put, List.setIfInBounds_toArray, List.set_cons_zero, List.set_cons_succ]
  refine wpAnyH_take (i := 29) (v := ?_) (by simp only [List.getElem?_toArray, List.getElem?_cons_zero, List.getElem?_cons_succ]; rfl) (by kernel_rfl) (by kernel_rfl) (by kernel_rfl) (by intro _ _ _ h; exact h) (Or.inl ⟨by rfl, ?_⟩) (by assumption) ?_
  rotate_left 1
  · intro w hSw; (try dsimp only at hSw); go_simp; try with_reducible rfl
  try simp only [Act.put, List.setIfInBounds_toArray, List.set_cons_zero, List.set_cons_succ]
  refine wpAnyH_take (i := 30) (v := ?_) (by simp only [List.getElem?_toArray, List.getElem?_cons_zero, List.getElem?_cons_succ]; rfl) (by kernel_rfl) (by kernel_rfl) (by kernel_rfl) (by intro _ _ _ h; exact h) (Or.inl ⟨by rfl, ?_⟩) (by assumption) ?_
  rotate_left 1
  · intro w hSw; (try dsimp only at hSw); go_simp; try with_reducible rfl
  try simp only [Act.put, List.setIfInBounds_toArray, List.set_cons_zero, List.set_cons_succ]
  refine wpAnyH_take (i := 31) (v := ?_) (by simp only [List.getElem?_toArray, List.getElem?_cons_zero, List.getElem?_cons_succ]; rfl) (by kernel_rfl) (by kernel_rfl) (by kernel_rfl) (by intro _ _ _ h; exact h) (Or.inl ⟨by rfl, ?_⟩) (by assumption) ?_
  rotate_left 1
  · intro w hSw; (try dsimp only at hSw); go_simp; try with_reducible rfl
  try simp only [Act.put, List.setIfInBounds_toArray, List.set_cons_zero, List.set_cons_succ]
  refine wpAnyH_take (i := 32) (v := ?_) (by simp only [List.getElem?_toArray, List.getElem?_cons_zero, List.getElem?_cons_succ]; rfl) (by kernel_rfl) (by kernel_rfl) (by kernel_rfl) (by intro _ _ _ h; exact h) (Or.inl ⟨by rfl, ?_⟩) (by assumption) ?_
  rotate_left 1
  · intro w hSw; (try dsimp only at hSw); go_simp; try with_reducible rfl
  try simp only [Act.put, List.setIfInBounds_toArray, List.set_cons_zero, List.set_cons_succ]
  refine wpAnyH_take (i := 33) (v := ?_) (by simp only [List.getElem?_toArray, List.getElem?_cons_zero, List.getElem?_cons_succ]; rfl) (by kernel_rfl) (by kernel_rfl) (by kernel_rfl) (by intro _ _ _ h; exact h) (Or.inl ⟨by rfl, ?_⟩) (by assumption) ?_
  rotate_left 1
  · intro w hSw; (try dsimp only at hSw); go_simp; try with_reducible rfl
  try simp only [Act.put, List.setIfInBounds_toArray, List.set_cons_zero, List.set_cons_succ]
  refine wpAnyH_take (i := 34) (v := ?_) (by simp only [List.getElem?_toArray, List.getElem?_cons_zero, List.getElem?_cons_succ]; rfl) (by kernel_rfl) (by kernel_rfl) (by kernel_rfl) (by intro _ _ _ h; exact h) (Or.inl ⟨by rfl, ?_⟩) (by assumption) ?_
  rotate_left 1
  · intro w hSw; (try dsimp only at hSw); go_simp; try with_reducible rfl
  try simp only [Act.put, List.setIfInBounds_toArray, List.set_cons_zero, List.set_cons_succ]
  refine wpAnyH_take (i := 35) (v := ?_) (by simp only [List.getElem?_toArray, List.getElem?_cons_zero, List.getElem?_cons_succ]; rfl) (by kernel_rfl) (by kernel_rfl) (by kernel_rfl) (by intro _ _ _ h; exact h) (Or.inl ⟨by rfl, ?_⟩) (by assumption) ?_
  rotate_left 1
  · intro w hSw; (try dsimp only at hSw); go_simp; try with_reducible rfl
  try simp only [Act.put, List.setIfInBounds_toArray, List.set_cons_zero, List.set_cons_succ]
  refine wpAnyH_take (i := 36) (v := ?_) (by simp only [List.getElem?_toArray, List.getElem?_cons_zero, List.getElem?_cons_succ]; rfl) (by kernel_rfl) (by kernel_rfl) (by kernel_rfl) (by intro _ _ _ h; exact h) (Or.inl ⟨by rfl, ?_⟩) (by assumption) ?_
  rotate_left 1
  · intro w hSw; (try dsimp only at hSw); go_simp; try with_reducible rfl
  try simp only [Act.put, List.setIfInBounds_toArray, List.set_cons_zero, List.set_cons_succ]
  refine wpAnyH_take (i := 37) (v := ?_) (by simp only [List.getElem?_toArray, List.getElem?_cons_zero, List.getElem?_cons_succ]; rfl) (by kernel_rfl) (by kernel_rfl) (by kernel_rfl) (by intro _ _ _ h; exact h) (Or.inl ⟨by rfl, ?_⟩) (by assumption) ?_
  rotate_left 1
  · intro w hSw; (try dsimp only at hSw); go_simp; try with_reducible rfl
  try simp only [Act.put, List.setIfInBounds_toArray, List.set_cons_zero, List.set_cons_succ]
  refine wpAnyH_take (i := 38) (v := ?_) (by simp only [List.getElem?_toArray, List.getElem?_cons_zero, List.getElem?_cons_succ]; rfl) (by kernel_rfl) (by kernel_rfl) (by kernel_rfl) (by intro _ _ _ h; exact h) (Or.inl ⟨by rfl, ?_⟩) (by assumption) ?_
  rotate_left 1
  · intro w hSw; (try dsimp only at hSw); go_simp; try with_reducible rfl
  try simp only [Act.put, List.setIfInBounds_toArray, List.set_cons_zero, List.set_cons_succ]
  refine wpAnyH_take (i := 39) (v := ?_) (by simp only [List.getElem?_toArray, List.getElem?_cons_zero, List.getElem?_cons_succ]; rfl) (by kernel_rfl) (by kernel_rfl) (by kernel_rfl) (by intro _ _ _ h; exact h) (Or.inl ⟨by rfl, ?_⟩) (by assumption) ?_
  rotate_left 1
  · intro w hSw; (try dsimp only at hSw); go_simp; try with_reducible rfl
  try simp only [Act.put, List.setIfInBounds_toArray, List.set_cons_zero, List.set_cons_succ]
  refine wpAnyH_take (i := 40) (v := ?_) (by simp only [List.getElem?_toArray, List.getElem?_cons_zero, List.getElem?_cons_succ]; rfl) (by kernel_rfl) (by kernel_rfl) (by kernel_rfl) (by intro _ _ _ h; exact h) (Or.inl ⟨by rfl, ?_⟩) (by assumption) ?_
  rotate_left 1
  · intro w hSw; (try dsimp only at hSw); go_simp; try with_reducible rfl
  try simp only [Act.put, List.setIfInBounds_toArray, List.set_cons_zero, List.set_cons_succ]
  refine wpAnyH_take (i := 41) (v := ?_) (by simp only [List.getElem?_toArray, List.getElem?_cons_zero, List.getElem?_cons_succ]; rfl) (by kernel_rfl) (by kernel_rfl) (by kernel_rfl) (by intro _ _ _ h; exact h) (Or.inl ⟨by rfl, ?_⟩) (by assumption) ?_
  rotate_left 1
  · intro w hSw; (try dsimp only at hSw); go_simp; try with_reducible rfl
  try simp only [Act.put, List.setIfInBounds_toArray, List.set_cons_zero, List.set_cons_succ]
  refine wpAnyH_take (i := 42) (v := ?_) (by simp only [List.getElem?_toArray, List.getElem?_cons_zero, List.getElem?_cons_succ]; rfl) (by kernel_rfl) (by kernel_rfl) (by kernel_rfl) (by intro _ _ _ h; exact h) (Or.inl ⟨by rfl, ?_⟩) (by assumption) ?_
  rotate_left 1
  · intro w hSw; (try dsimp only at hSw); go_simp; try with_reducible rfl
  try simp only [Act.put, List.setIfInBounds_toArray, List.set_cons_zero, List.set_cons_succ]
  refine wpAnyH_take (i := 43) (v := ?_) (by simp only [List.getElem?_toArray, List.getElem?_cons_zero, List.getElem?_cons_succ]; rfl) (by kernel_rfl) (by kernel_rfl) (by kernel_rfl) (by intro _ _ _ h; exact h) (Or.inl ⟨by rfl, ?_⟩) (by assumption) ?_
  rotate_left 1
  · intro w hSw; (try dsimp only at hSw); go_simp; try with_reducible rfl
  try simp only [Act.put, List.setIfInBounds_toArray, List.set_cons_zero, List.set_cons_succ]
  refine wpAnyH_take (i := 44) (v := ?_) (by simp only [List.getElem?_toArray, List.getElem?_cons_zero, List.getElem?_cons_succ]; rfl) (by kernel_rfl) (by kernel_rfl) (by kernel_rfl) (by intro _ _ _ h; exact h) (Or.inl ⟨by rfl, ?_⟩) (by assumption) ?_
  rotate_left 1
  · intro w hSw; (try dsimp only at hSw); go_simp; try with_reducible rfl
  try simp only [Act.put, List.setIfInBounds_toArray, List.set_cons_zero, List.set_cons_succ]
  refine wpAnyH_take (i := 45) (v := ?_) (by simp only [List.getElem?_toArray, List.getElem?_cons_zero, List.getElem?_cons_succ]; rfl) (by kernel_rfl) (by kernel_rfl) (by kernel_rfl) (by intro _ _ _ h; exact h) (Or.inl ⟨by rfl, ?_⟩) (by assumption) ?_
  rotate_left 1
  · intro w hSw; (try dsimp only at hSw); go_simp; try with_reducible rfl
  try simp only [Act.put, List.setIfInBounds_toArray, List.set_cons_zero, List.set_cons_succ]
  refine wpAnyH_take (i := 46) (v := ?_) (by simp only [List.getElem?_toArray, List.getElem?_cons_zero, List.getElem?_cons_succ]; rfl) (by kernel_rfl) (by kernel_rfl) (by kernel_rfl) (by intro _ _ _ h; exact h) (Or.inl ⟨by rfl, ?_⟩) (by assumption) ?_
  rotate_left 1
  · intro w hSw; (try dsimp only at hSw); go_simp; try with_reducible rfl
  try simp only [Act.put, List.setIfInBounds_toArray, List.set_cons_zero, List.set_cons_succ]
  refine wpAnyH_take (i := 47) (v := ?_) (by simp only [List.getElem?_toArray, List.getElem?_cons_zero, List.getElem?_cons_succ]; rfl) (by kernel_rfl) (by kernel_rfl) (by kernel_rfl) (by intro _ _ _ h; exact h) (Or.inl ⟨by rfl, ?_⟩) (by assumption) ?_
  rotate_left 1
  · intro w hSw; (try dsimp only at hSw); go_simp; try with_reducible rfl
  try simp only [Act.put, List.setIfInBounds_toArray, List.set_cons_zero, List.set_cons_succ]
  refine wpAnyH_take (i := 48) (v := ?_) (by simp only [List.getElem?_toArray, List.getElem?_cons_zero, List.getElem?_cons_succ]; rfl) (by kernel_rfl) (by kernel_rfl) (by kernel_rfl) (by intro _ _ _ h; exact h) (Or.inl ⟨by rfl, ?_⟩) (by assumption) ?_
  rotate_left 1
  · intro w hSw; (try dsimp only at hSw); go_simp; try with_reducible rfl
  try simp only [Act.put, List.setIfInBounds_toArray, List.set_cons_zero, List.set_cons_succ]
  refine wpAnyH_take (i := 49) (v := ?_) (by simp only [List.getElem?_toArray, List.getElem?_cons_zero, List.getElem?_cons_succ]; rfl) (by kernel_rfl) (by kernel_rfl) (by kernel_rfl) (by intro _ _ _ h; exact h) (Or.inl ⟨by rfl, ?_⟩) (by assumption) ?_
  rotate_left 1
  · intro w hSw; (try dsimp only at hSw); go_simp; try with_reducible rfl
  try simp only [Act.put, List.setIfInBounds_toArray, List.set_cons_zero, List.set_cons_succ]
  refine wpAnyH_take (i := 50) (v := ?_) (by simp only [List.getElem?_toArray, List.getElem?_cons_zero, List.getElem?_cons_succ]; rfl) (by kernel_rfl) (by kernel_rfl) (by kernel_rfl) (by intro _ _ _ h; exact h) (Or.inl ⟨by rfl, ?_⟩) (by assumption) ?_
  rotate_left 1
  · intro w hSw; (try dsimp only at hSw); go_simp; try with_reducible rfl
  try simp only [Act.put, List.setIfInBounds_toArray, List.set_cons_zero, List.set_cons_succ]
  refine wpAnyH_take (i := 51) (v := ?_) (by simp only [List.getElem?_toArray, List.getElem?_cons_zero, List.getElem?_cons_succ]; rfl) (by kernel_rfl) (by kernel_rfl) (by kernel_rfl) (by intro _ _ _ h; exact h) (Or.inl ⟨by rfl, ?_⟩) (by assumption) ?_
  rotate_left 1
  · intro w hSw; (try dsimp only at hSw); go_simp; try with_reducible rfl
  try simp only [Act.put, List.setIfInBounds_toArray, List.set_cons_zero, List.set_cons_succ]
  refine wpAnyH_take (i := 52) (v := ?_) (by simp only [List.getElem?_toArray, List.getElem?_cons_zero, List.getElem?_cons_succ]; rfl) (by kernel_rfl) (by kernel_rfl) (by kernel_rfl) (by intro _ _ _ h; exact h) (Or.inl ⟨by rfl, ?_⟩) (by assumption) ?_
  rotate_left 1
  · intro w hSw; (try dsimp only at hSw); go_simp; try with_reducible rfl
  try simp only [Act.put, List.setIfInBounds_toArray, List.set_cons_zero, List.set_cons_succ]
  refine wpAnyH_take (i := 53) (v := ?_) (by simp only [List.getElem?_toArray, List.getElem?_cons_zero, List.getElem?_cons_succ]; rfl) (by kernel_rfl) (by kernel_rfl) (by kernel_rfl) (by intro _ _ _ h; exact h) (Or.inl ⟨by rfl, ?_⟩) (by assumption) ?_
  rotate_left 1
  · intro w hSw; (try dsimp only at hSw); go_simp; try with_reducible rfl
  try simp only [Act.put, List.setIfInBounds_toArray, List.set_cons_zero, List.set_cons_succ]
  refine wpAnyH_take (i := 54) (v := ?_) (by simp only [List.getElem?_toArray, List.getElem?_cons_zero, List.getElem?_cons_succ]; rfl) (by kernel_rfl) (by kernel_rfl) (by kernel_rfl) (by intro _ _ _ h; exact h) (Or.inl ⟨by rfl, ?_⟩) (by assumption) ?_
  rotate_left 1
  · intro w hSw; (try dsimp only at hSw); go_simp; try with_reducible rfl
  try simp only [Act.put, List.setIfInBounds_toArray, List.set_cons_zero, List.set_cons_succ]
  refine wpAnyH_take (i := 55) (v := ?_) (by simp only [List.getElem?_toArray, List.getElem?_cons_zero, List.getElem?_cons_succ]; rfl) (by kernel_rfl) (by kernel_rfl) (by kernel_rfl) (by intro _ _ _ h; exact h) (Or.inl ⟨by rfl, ?_⟩) (by assumption) ?_
  rotate_left 1
  · intro w hSw; (try dsimp only at hSw); go_simp; try with_reducible rfl
  try simp only [Act.put, List.setIfInBounds_toArray, List.set_cons_zero, List.set_cons_succ]
  refine wpAnyH_ready (rs := [56]) (by kernel_rfl) (by simp) ?_
  refine AllReadyH.cons (by simp only [List.getElem?_toArray, List.getElem?_cons_zero, List.getElem?_cons_succ]; rfl) (fun K hK => ?_) AllReadyH.nil
  go_simp
  go_wp2_with (refine (HLv _).out.mono ?_; rintro e wG ⟨rfl, ur'⟩; have ur : Upd Nowhere wF wG := ((Upd.refl _ _).drew).trans ur' (fun _ _ h => h))
  refine hK.out _ _ (by (try dsimp only); exact ⟨cell_old ur a1, cell_old ur b1, cell_old ur a2, cell_old ur b2, cell_old ur d1, cell_old ur d2, cell_old ur e1, cell_old ur e2⟩) (fun hHeld => ?_)
  clear hK K
  refine wpAnyH_take (i := 57) (v := ?_) (by simp only [List.getElem?_toArray, List.getElem?_cons_zero, List.getElem?_cons_succ]; rfl) (by kernel_rfl) (by kernel_rfl) (by kernel_rfl) (by intro _ _ _ h; exact h) (Or.inl ⟨by rfl, ?_⟩) (by assumption) ?_
  rotate_left 1
  · intro w hSw; (try dsimp only at hSw); go_simp; try with_reducible rfl
  try simp only [Act.put, List.setIfInBounds_toArray, List.set_cons_zero, List.set_cons_succ]
  refine wpAnyH_take (i := 58) (v := ?_) (by simp only [List.getElem?_toArray, List.getElem?_cons_zero, List.getElem?_cons_succ]; rfl) (by kernel_rfl) (by kernel_rfl) (by kernel_rfl) (by intro _ _ _ h; exact h) (Or.inl ⟨by rfl, ?_⟩) (by assumption) ?_
  rotate_left 1
  · intro w hSw; (try dsimp only at hSw); go_simp; try with_reducible rfl
  try simp only [Act.put, List.setIfInBounds_toArray, List.set_cons_zero, List.set_cons_succ]
  refine wpAnyH_done (by kernel_rfl) ?_ _
  go_wp2_with fail
  go_ret
  exact ⟨rfl, (HU1.out.trans HU.out (fun _ _ h => h)).trans ur (fun _ _ h => h)⟩
end Go.Proofs.YtpgpjjkeginbbaaGreat.Shm

