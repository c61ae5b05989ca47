/- Ea2, one behind the other. -/
import Derived.Test.YtpgpjjkeginbbaaGreatDoorMtFi
import Derived.Test.YtpgpjjkeginbbaaGreatDoorMeTk
namespace Go.Proofs.YtpgpjjkeginbbaaGreatDoor.Ea
open Go.RowKit Go.Proofs BigFrame
open RingW (It KI zI ZI VI TE RA)
open First (TF VF IF)
open Ah (Ek k0 kin kout pk)
set_option maxHeartbeats 40000000
set_option maxRecDepth 1000000
set_option linter.unusedSimpArgs false
section
variable {u u' : World} {o o' : Nat → Prop} {a0 a1 a2 a3 a4 a5 : Addr} {v0 v1 v2 v3 v4 v5 : Value}
theorem six_old (h : u.cell? a0 = some v0 ∧ u.cell? a1 = some v1 ∧ u.cell? a2 = some v2 ∧ u.cell? a3 = some v3 ∧ u.cell? a4 = some v4 ∧ u.cell? a5 = some v5) (hu : Upd Nowhere u u') : u'.cell? a0 = some v0 ∧ u'.cell? a1 = some v1 ∧ u'.cell? a2 = some v2 ∧ u'.cell? a3 = some v3 ∧ u'.cell? a4 = some v4 ∧ u'.cell? a5 = some v5 := by
 obtain ⟨h0, h1, h2, h3, h4, h5⟩ := h
 exact ⟨cell_old hu h0, cell_old hu h1, cell_old hu h2, cell_old hu h3, cell_old hu h4, cell_old hu h5⟩
theorem six_fol (h : u.cell? a0 = some v0 ∧ u.cell? a1 = some v1 ∧ u.cell? a2 = some v2 ∧ u.cell? a3 = some v3 ∧ u.cell? a4 = some v4 ∧ u.cell? a5 = some v5) (hf : Fol u o u' o') (n0 : ¬ o a0.block) (n1 : ¬ o a1.block) (n2 : ¬ o a2.block) (n3 : ¬ o a3.block) (n4 : ¬ o a4.block) (n5 : ¬ o a5.block) : u'.cell? a0 = some v0 ∧ u'.cell? a1 = some v1 ∧ u'.cell? a2 = some v2 ∧ u'.cell? a3 = some v3 ∧ u'.cell? a4 = some v4 ∧ u'.cell? a5 = some v5 := by
 obtain ⟨h0, h1, h2, h3, h4, h5⟩ := h
 exact ⟨hf.cell h0 n0, hf.cell h1 n1, hf.cell h2 n2, hf.cell h3 n3, hf.cell h4 n4, hf.cell h5 n5⟩
theorem six_set (h : u.cell? a0 = some v0 ∧ u.cell? a1 = some v1 ∧ u.cell? a2 = some v2 ∧ u.cell? a3 = some v3 ∧ u.cell? a4 = some v4 ∧ u.cell? a5 = some v5) {a : Addr} {v : Value} (n0 : a0.block ≠ a.block) (n1 : a1.block ≠ a.block) (n2 : a2.block ≠ a.block) (n3 : a3.block ≠ a.block) (n4 : a4.block ≠ a.block) (n5 : a5.block ≠ a.block) : (u.setCell a v).cell? a0 = some v0 ∧ (u.setCell a v).cell? a1 = some v1 ∧ (u.setCell a v).cell? a2 = some v2 ∧ (u.setCell a v).cell? a3 = some v3 ∧ (u.setCell a v).cell? a4 = some v4 ∧ (u.setCell a v).cell? a5 = some v5 := by
 obtain ⟨h0, h1, h2, h3, h4, h5⟩ := h
 exact ⟨by rw [World.cell?_of_block (w := u) (Below.heap_setCell _ _ _ _ n0)]; exact h0, by rw [World.cell?_of_block (w := u) (Below.heap_setCell _ _ _ _ n1)]; exact h1, by rw [World.cell?_of_block (w := u) (Below.heap_setCell _ _ _ _ n2)]; exact h2, by rw [World.cell?_of_block (w := u) (Below.heap_setCell _ _ _ _ n3)]; exact h3, by rw [World.cell?_of_block (w := u) (Below.heap_setCell _ _ _ _ n4)]; exact h4, by rw [World.cell?_of_block (w := u) (Below.heap_setCell _ _ _ _ n5)]; exact h5⟩
theorem six_put (h : u.cell? a0 = some v0 ∧ u.cell? a1 = some v1 ∧ u.cell? a2 = some v2 ∧ u.cell? a3 = some v3 ∧ u.cell? a4 = some v4 ∧ u.cell? a5 = some v5) {N : Nat} {x0 x1 x2 x3 x4 : Value} (n0 : a0.block ≠ N) (n1 : a1.block ≠ N) (n2 : a2.block ≠ N) (n3 : a3.block ≠ N) (n4 : a4.block ≠ N) (n5 : a5.block ≠ N) : ((((((u.setCell ⟨N, 0, none⟩ x0).setCell ⟨N, 1, none⟩ x1).setCell ⟨N, 2, none⟩ x2).setCell ⟨N, 3, none⟩ x3).setCell ⟨N, 4, none⟩ x4)).cell? a0 = some v0 ∧ ((((((u.setCell ⟨N, 0, none⟩ x0).setCell ⟨N, 1, none⟩ x1).setCell ⟨N, 2, none⟩ x2).setCell ⟨N, 3, none⟩ x3).setCell ⟨N, 4, none⟩ x4)).cell? a1 = some v1 ∧ ((((((u.setCell ⟨N, 0, none⟩ x0).setCell ⟨N, 1, none⟩ x1).setCell ⟨N, 2, none⟩ x2).setCell ⟨N, 3, none⟩ x3).setCell ⟨N, 4, none⟩ x4)).cell? a2 = some v2 ∧ ((((((u.setCell ⟨N, 0, none⟩ x0).setCell ⟨N, 1, none⟩ x1).setCell ⟨N, 2, none⟩ x2).setCell ⟨N, 3, none⟩ x3).setCell ⟨N, 4, none⟩ x4)).cell? a3 = some v3 ∧ ((((((u.setCell ⟨N, 0, none⟩ x0).setCell ⟨N, 1, none⟩ x1).setCell ⟨N, 2, none⟩ x2).setCell ⟨N, 3, none⟩ x3).setCell ⟨N, 4, none⟩ x4)).cell? a4 = some v4 ∧ ((((((u.setCell ⟨N, 0, none⟩ x0).setCell ⟨N, 1, none⟩ x1).setCell ⟨N, 2, none⟩ x2).setCell ⟨N, 3, none⟩ x3).setCell ⟨N, 4, none⟩ x4)).cell? a5 = some v5 :=
 six_set (six_set (six_set (six_set (six_set h n0 n1 n2 n3 n4 n5) n0 n1 n2 n3 n4 n5) n0 n1 n2 n3 n4 n5) n0 n1 n2 n3 n4 n5) n0 n1 n2 n3 n4 n5
theorem put_upd5 {w : World} {N : Nat} {x0 x1 x2 x3 x4 : Value} (h : Upd (fun q => q = N) w u) : Upd (fun q => q = N) w (((((u.setCell ⟨N, 0, none⟩ x0).setCell ⟨N, 1, none⟩ x1).setCell ⟨N, 2, none⟩ x2).setCell ⟨N, 3, none⟩ x3).setCell ⟨N, 4, none⟩ x4) :=
 ((((h.setOne 0 x0).setOne 1 x1).setOne 2 x2).setOne 3 x3).setOne 4 x4
end
theorem leave_any {w : World} {own : Nat → Prop} {e : Nat} {E : Eg} {c i k b : Nat} {s : Ek} (h : EgP w own e E) (hpc : E.pace ≤ 65536) (hnow : E.now ≤ 18446744073709551615) (hc : c < 1000000000) (hx : E.q[i]? = some (k, b, s)) (hlf : s.left ≤ c) (p0 p1 p2 : Nat) (hp : p2 ≤ 65535) :
 Calls Tryz.prog 50 #[.pointer (some ⟨e, 0, none⟩), .pointer (some ⟨k, 0, none⟩), VP (p0, p1, p2)] w fun x w' => x = .returned (.tuple #[]) ∧ ∃ own', EgP w' own' e { E with q := E.q.set i (k, b, { s with left := s.left + 1 }), busy := bsy E p2 } ∧ Fol w own w' own' := by
 obtain ⟨heo, ac, cc, hB, -⟩ := h.blk
 have hU : Upd Nowhere w (w.alloc (.cells (PBc p0 p1 p2) TP)) := (Upd.refl _ _).alloc _
 have hPB : Blk (w.alloc (.cells (PBc p0 p1 p2) TP)) w.heap.size (PBc p0 p1 p2) TP := Blk.new _ _ _
 have h0 : EgP (w.alloc (.cells (PBc p0 p1 p2) TP)) own e E := (egC e E).kp h hU (fun _ _ h => h)
 have hlt : ∀ q, own q → q < w.heap.size := fun q hq => (egC e E).lt h hq
 have F0 := Lib.hid ((Fol.refl w own).old hU)
 have HB := Lib.hid (Blk.kept hB hU id)
 obtain ⟨PB, hPBe⟩ : ∃ PB, w.heap.size = PB := ⟨_, rfl⟩
 have HPE := Lib.hid hPBe
 rw [hPBe] at hPB
 have HPB := Lib.hid hPB
 have HNO : Hid (¬ own PB) := Lib.hid (fun h9 => by have := hlt _ h9; omega)
 have hpe : ¬ PB = e := fun h9 => HNO.out (by rw [h9]; exact heo)
 have H0 := Lib.hid h0
 have HTK := fun u (hu : u.cell? ⟨e, 2, none⟩ = some (.int .u64 (E.pace : Nat))) => Lib.hid (takes_any (w := u) (f := p0) (i := p1) (l := p2) hu (by omega) (by omega))
 obtain ⟨tk, htk⟩ : ∃ tk, tks E.pace p2 = tk := ⟨_, rfl⟩
 have htl : tk ≤ 18446744073709551615 := by rw [← htk]; unfold tks; exact Nat.min_le_right _ _
 rw [htk] at HTK
 have HAD := fun u => Lib.hid (Bits.sat_add E.now tk u (by omega) (by omega))
 obtain ⟨bz, hbz⟩ : ∃ bz, min (E.now + tk) 18446744073709551615 = bz := ⟨_, rfl⟩
 rw [hbz] at HAD
 have hbsy : bsy E p2 = bz := by unfold bsy; rw [htk, hbz]
 rw [hbsy]
 obtain ⟨nw, hnw⟩ : ∃ nw, E.now = nw := ⟨_, rfl⟩
 obtain ⟨pc, hpcq⟩ : ∃ pc, E.pace = pc := ⟨_, rfl⟩
 have c2 : (w.alloc (.cells (PBc p0 p1 p2) TP)).cell? ⟨e, 2, none⟩ = some (.int .u64 pc) := by rw [← hpcq]; exact HB.out.cellAt rfl
 have c3 : (w.alloc (.cells (PBc p0 p1 p2) TP)).cell? ⟨e, 3, none⟩ = some (.int .u64 nw) := by rw [← hnw]; exact HB.out.cellAt rfl
 have c4 : (w.alloc (.cells (PBc p0 p1 p2) TP)).cell? ⟨e, 4, none⟩ = some (.int .u64 (E.busy : Nat)) := HB.out.cellAt rfl
 have z4 := Blk.free HB.out 4
 rw [hnw] at HAD
 rw [hpcq] at HTK
 have hel : e < (w.alloc (.cells (PBc p0 p1 p2) TP)).heap.size := Blk.lt HB.out
 have HX := Lib.hid hx
 have HLF := Lib.hid hlf
 have HCC := Lib.hid hc
 clear h hc hx hlf hp hB hU h0 hlt htk hbz hbsy hnw hpcq hpc hnow heo hPB htl
 go_enter Tryz.func50, Tryz.ntmps50
 go_upto_region 1 with fail
 obtain ⟨w0, hw0⟩ : ∃ x, x = w.alloc (.cells (PBc p0 p1 p2) TP) := ⟨_, rfl⟩
 rw [← hw0] at HPB F0 HB H0 c2 c3 c4 z4 hel
 generalize w.alloc (.cells (PBc p0 p1 p2) TP) = wz at hw0 ⊢
 subst hw0
 try simp only [HPE.out]
 obtain ⟨b0, b1, b2, -⟩ := cells3 HPB.out
 go_cut [] (fun wc => ∃ w5, Upd Nowhere w0 w5 ∧ wc = w5.setCell ⟨e, 4, none⟩ (.int .u64 (bz : Nat)))
 case first =>
  refine wp_region_held_drew (S := fun w' => w'.cell? ⟨e, 2, none⟩ = some (.int .u64 pc) ∧ w'.cell? ⟨e, 3, none⟩ = some (.int .u64 nw) ∧ w'.cell? ⟨PB, 0, none⟩ = some (.int .u32 p0) ∧ w'.cell? ⟨PB, 1, none⟩ = some (.int .u32 p1) ∧ w'.cell? ⟨PB, 2, none⟩ = some (.int .u64 p2) ∧ w'.cell? ⟨e, 3, none⟩ = some (.int .u64 nw)) (by kernel_rfl) (six_old ⟨c2, c3, b0, b1, b2, c3⟩ ((Upd.refl _ _).drew)) (fun hHeld => ?_)
  refine tkq 0 ?_
  refine tkq 1 ?_
  refine tkq 2 ?_
  refine tkq 3 ?_
  refine tkq 4 ?_
  refine tkq 5 ?_
  refine tkq 6 ?_
  refine rdq 7 fun K hK => ?_
  go_simp
  refine (HTK _ (by have h9 := hHeld.1; exact h9)).out.mono ?_
  rintro x5 w5 ⟨rfl, u5⟩
  have hS5 := six_old hHeld u5
  have u05 : Upd Nowhere w0 w5 := ((Upd.refl _ _).drew).trans u5 (fun _ _ h => h)
  refine hK.out _ _ (by (try dsimp only); exact hS5) (fun hHeld => ?_)
  clear hK K
  refine rdq 8 fun K hK => ?_
  go_simp
  refine (HAD _).out.mono ?_
  rintro x6 w6 ⟨rfl, rfl⟩
  refine hK.out _ _ (by (try dsimp only); exact hHeld) (fun hHeld => ?_)
  clear hK K
  have f4 : w5.frozen? ⟨e, 4, none⟩ = false := (u05.frozen 4 hel id).trans z4
  have y4 := cell_old u05 c4
  refine tkq 9 ?_
  refine tkq 10 ?_
  refine rdq 11 fun K hK => ?_
  go_simp
  obtain ⟨g0, g1, g2, g3, g4, g5⟩ := hHeld
  refine hK.out _ _ ⟨cell_set g0 (by simp), cell_set g1 (by simp), cell_set g2 (by simp [hpe]), cell_set g3 (by simp [hpe]), cell_set g4 (by simp [hpe]), cell_set g5 (by simp)⟩ (fun hHeld => ?_)
  clear hK K
  refine wpAnyH_done (by kernel_rfl) ?_ _
  go_wp2_with fail
  go_meet
  exact ⟨w5, u05, rfl⟩
 case rest =>
  obtain ⟨w5, u5, rfl⟩ := hcut
  obtain ⟨h6, f6⟩ := EgP.setBusy ((egC e E).kp H0.out u5 (fun _ _ h => h)) bz
  have F6 := Lib.hid ((F0.out.old u5).trans f6)
  have H6 := Lib.hid h6
  obtain ⟨_, _, hB6⟩ := h6.cells HX.out
  have HB6 := Lib.hid hB6
  clear f6 h6 c2 c3 c4 z4 b0 b1 b2 HTK HAD H0 HB HPB F0 hB6 u5
  generalize w5.setCell ⟨e, 4, none⟩ (.int .u64 (bz : Nat)) = w6 at *
  have k2 := kc2 HB6.out
  have k25 := kc25 HB6.out
  have k31 := kc31 HB6.out
  have z31 := Blk.free HB6.out 31
  obtain ⟨lf, hlf⟩ : ∃ lf, s.left + 1 = lf := ⟨_, rfl⟩
  have e1 : IntKind.i64.wrap ((s.left : Int) + 1) = (lf : Int) := by rw [IntKind.wrap_i64]; have := HLF.out; have := HCC.out; omega
  have HLFE := Lib.hid hlf
  clear hlf
  go_wp2_with fail
  go_end0
  obtain ⟨own', t3, t4⟩ := EgP.setK (w' := w6.setCell ⟨k, 31, none⟩ (.int .i64 (lf : Nat))) (s' := { s with left := s.left + 1 }) H6.out HX.out (Upd.refl _ _) ((Upd.refl _ _).setOne 31 _) rfl (fun hB => by rw [← HLFE.out]; exact hB.set 31 (.int .i64 ((s.left + 1 : Nat) : Int)))
  exact ⟨rfl, own', t3, F6.out.trans t4⟩
theorem push_len {w : World} {own : Nat → Prop} {e : Nat} {E : Eg} {i : Nat} (h : EgP w own e E) (hi : i < E.q.length) (rank p0 p1 p2 : Nat) (hp : p2 = 0 ∨ 65535 < p2) :
 Calls Tryz.prog 14 #[.pointer (some ⟨e, 0, none⟩), .int .i64 i, .int .u64 rank, VP (p0, p1, p2)] w fun x w' => x = .returned (.int .i64 12) ∧ Upd Nowhere w w' := by
 obtain ⟨_, ac, cc, hB, hK, -⟩ := h.blk
 obtain ⟨⟨k, b, s⟩, hx⟩ : ∃ x, E.q[i]? = some x := ⟨E.q[i], by simp [hi]⟩
 obtain ⟨g, rfl, hg⟩ := hK i _ hx
 have hU : Upd Nowhere w (w.alloc (.cells (PBc p0 p1 p2) TP)) := (Upd.refl _ _).alloc _
 have c0 : (w.alloc (.cells (PBc p0 p1 p2) TP)).cell? ⟨e, 0, none⟩ = some (.slice (some ⟨g, 0, none⟩) E.q.length cc) := cell_old hU (hB.cellAt rfl)
 have HC := Lib.hid (class_at c0 hi (cell_old hU hg))
 clear h hi hB c0 hK hx hg
 by_cases h0 : p2 = 0
 · have d0 : ((p2 : Int) == 0) = true := by simp; omega
   clear hp h0
   go_enter Tryz.func14, Tryz.ntmps14
   go_wp2_with fail
   refine (HC.out).mono ?_
   rintro x w' ⟨rfl, rfl⟩
   go_wp2_with fail
   go_ret
   exact ⟨rfl, hU⟩
 · have d0 : ((p2 : Int) == 0) = false := by simp; omega
   have d1 : decide (65535 < p2) = true := decide_eq_true (by omega)
   have d2 : decide ((65535 : Int) < (p2 : Int)) = true := decide_eq_true (by omega)
   clear hp h0
   go_enter Tryz.func14, Tryz.ntmps14
   go_wp2_with fail
   refine (HC.out).mono ?_
   rintro x w' ⟨rfl, rfl⟩
   go_wp2_with fail
   go_ret
   exact ⟨rfl, hU⟩
theorem push_in {w : World} {own o : Nat → Prop} {e : Nat} {E : Eg} {c i k b : Nat} {s : Ek} (h : EgP w own e E) (hE : OkE E c) (hc : c < 1000000000) (hx : E.q[i]? = some (k, b, s)) (hroom : s.l.length < 4096) (rank p0 p1 p2 : Nat) (hp1 : 1 ≤ p2) (hp2 : p2 ≤ 65535)
 (hC : ClsP w o k b s) (hoe : ¬ o e) :
 Calls Tryz.prog 14 #[.pointer (some ⟨e, 0, none⟩), .int .i64 i, .int .u64 rank, VP (p0, p1, p2)] w fun x w' => x = .returned (.int .i64 0) ∧ ∃ o', ClsP w' o' k b (kin s E.now (p0, p1, p2)) ∧ Fol w o w' o' := by
 obtain ⟨_, ac, cc, hB, hK, -⟩ := h.blk
 have hi := lt_of_at hx
 obtain ⟨g, rfl, hg⟩ := hK i _ hx
 obtain ⟨hs1, hs2, hs3, hs4⟩ := hE.q _ (List.mem_of_getElem? hx)
 dsimp only at hs1 hs2 hs3 hs4 hg
 have hU : Upd Nowhere w (w.alloc (.cells (PBc p0 p1 p2) TP)) := (Upd.refl _ _).alloc _
 have hPB : Blk (w.alloc (.cells (PBc p0 p1 p2) TP)) w.heap.size (PBc p0 p1 p2) TP := Blk.new _ _ _
 have c0 : (w.alloc (.cells (PBc p0 p1 p2) TP)).cell? ⟨e, 0, none⟩ = some (.slice (some ⟨g, 0, none⟩) E.q.length cc) := cell_old hU (hB.cellAt rfl)
 have HC := Lib.hid (class_at c0 hi (cell_old hU hg))
 have hlt : ∀ q, o q → q < w.heap.size := fun q hq => (clsC k b s).lt hC hq
 have hC0 : ClsP (w.alloc (.cells (PBc p0 p1 p2) TP)) o k b s := (clsC k b s).kp hC hU (fun _ _ h => h)
 have HM := Lib.hid (may0 hC0 hroom rank)
 have hnow : w.cell? ⟨e, 3, none⟩ = some (.int .u64 (E.now : Nat)) := hB.cellAt rfl
 obtain ⟨hke, o1, hBk, -⟩ := hC.blk
 have hek : e ≠ k := fun he => hoe (by rw [he]; exact hke)
 have d0 : ((p2 : Int) == 0) = false := by simp; omega
 have d1 : decide (65535 < p2) = false := decide_eq_false (by omega)
 have d2 : decide ((65535 : Int) < (p2 : Int)) = false := decide_eq_false (by omega)
 have HS1 := Lib.hid hs1
 have HS3 := Lib.hid hs3
 have HP2 := Lib.hid hp2
 have HCC := Lib.hid hc
 have HLT := Lib.hid hlt
 have HOE := Lib.hid hoe
 have HRM := Lib.hid hroom
 obtain ⟨PB, hPBe⟩ : ∃ PB, w.heap.size = PB := ⟨_, rfl⟩
 have HNOW := Lib.hid (cell_old hU hnow)
 have F0 := Lib.hid ((Fol.refl w o).old hU)
 have HPE := Lib.hid hPBe
 rw [hPBe] at hPB
 have HPB := Lib.hid hPB
 have HC0 := Lib.hid hC0
 obtain ⟨nw, hnw⟩ : ∃ nw, E.now = nw := ⟨_, rfl⟩
 rw [hnw] at HNOW
 rw [hnw]
 clear h hE hx hC hoe hB hK hg hi hs1 hs2 hs3 hs4 hPB hU c0 hC0 hnow hBk hke hlt hnw hPBe hp1 hp2 hroom hc
 go_enter Tryz.func14, Tryz.ntmps14
 go_upto_region 1 with fail
 obtain ⟨w0, hw0⟩ : ∃ x, x = w.alloc (.cells (PBc p0 p1 p2) TP) := ⟨_, rfl⟩
 rw [← hw0] at HC HM HNOW F0 HPB HC0
 generalize w.alloc (.cells (PBc p0 p1 p2) TP) = wz at hw0 ⊢
 subst hw0
 try simp only [HPE.out]
 obtain ⟨b0, b1, b2, -⟩ := cells3 HPB.out
 go_wp2_with fail
 refine (HC.out).mono ?_
 rintro x w' ⟨rfl, rfl⟩
 go_wp2_with fail
 refine (HM.out).mono ?_
 rintro x w1 ⟨rfl, u1⟩
 have hno : ¬ o PB := fun h9 => absurd (HLT.out _ h9) (by rw [HPE.out]; exact Nat.lt_irrefl _)
 have hPB1 := Blk.kept HPB.out u1 id
 have HNO1 := Lib.hid hno
 have HOE1 := Lib.hid HOE.out
 have HNOW1 := Lib.hid (cell_old u1 HNOW.out)
 have HPB1 := Lib.hid hPB1
 have F1 := Lib.hid (F0.out.old u1)
 have h1 := (clsC k b s).kp HC0.out u1 (fun _ _ h => h)
 clear b0 b1 b2 hno hPB1 HM HC F0 HPB HNOW HOE HC0 u1
 obtain ⟨o2, hB, hRq, hk2, hs2, hko, hKK⟩ := ClsP.row h1
 have HCP := fun u (hu : Upd Nowhere w1 u) => Lib.hid (cp ((rgC b s.l).kp hRq hu (fun _ _ h => h)) HRM.out rank (p0, p1, p2, nw, s.inn))
 have hmp := mp b
 have c16 := kc16 hB
 have c30 := kc30 hB
 obtain ⟨b0, b1, b2, -⟩ := cells3 HPB1.out
 have hnw1 := HNOW1.out
 have n1 : ¬ o2 PB := fun h9 => HNO1.out (hs2 _ h9)
 have n2 : ¬ o2 e := fun h9 => HOE1.out (hs2 _ h9)
 have l1 : k < w1.heap.size := Blk.lt hB
 have l2 : PB < w1.heap.size := Blk.lt HPB1.out
 have l3 : e < w1.heap.size := cell_lt hnw1
 have HKK := Lib.hid hKK
 have HB := Lib.hid hB
 have HK2 := Lib.hid hk2
 have HN1 := Lib.hid n1
 have HN2 := Lib.hid n2
 have HS2 := Lib.hid hs2
 have HKO : Hid (o k) := Lib.hid hko
 have HLT2 : Hid (∀ q, o2 q → q < w1.heap.size) := Lib.hid (fun q hq => (rgC b s.l).lt hRq hq)
 have hdy : ((0 : Int) != 0) = false := by decide
 obtain ⟨L', hL'⟩ : ∃ L', s.l ++ [(p0, p1, p2, nw, s.inn)] = L' := ⟨_, rfl⟩
 rw [hL'] at HCP
 have HL' := Lib.hid hL'
 clear h1 hB hRq hk2 hs2 hko hKK n1 n2 hL'
 go_wp2_with fail
 go_upto_region 11 with fail
 go_cut [11, 12, 13] (fun v11 v12 v13 wc => ∃ p o3, v11 = .pointer (some ⟨p, 0, none⟩) ∧ v12 = .bool false ∧ v13 = .bool false ∧ RgP wc o3 b L' ∧ Fol w1 o2 wc o3)
 case first =>
  refine wp_region_held_drew (S := fun w' => w'.cell? ⟨k, 16, none⟩ = some (IF b) ∧ w'.cell? ⟨k, 30, none⟩ = some (.int .i64 (s.inn : Nat)) ∧ w'.cell? ⟨e, 3, none⟩ = some (.int .u64 nw) ∧ w'.cell? ⟨PB, 0, none⟩ = some (.int .u32 p0) ∧ w'.cell? ⟨PB, 1, none⟩ = some (.int .u32 p1) ∧ w'.cell? ⟨PB, 2, none⟩ = some (.int .u64 p2)) (by kernel_rfl) (six_old ⟨c16, c30, hnw1, b0, b1, b2⟩ ((Upd.refl _ _).drew)) (fun hHeld => ?_)
  refine tkq 0 ?_
  refine tkq 1 ?_
  refine tkq 2 ?_
  refine tkq 3 ?_
  refine tkq 4 ?_
  refine tkq 5 ?_
  refine tkq 6 ?_
  refine tkq 7 ?_
  refine tkq 8 ?_
  refine tkq 9 ?_
  refine tkq 10 ?_
  refine tkq 11 ?_
  refine tkq 12 ?_
  refine tkq 13 ?_
  refine tkq 14 ?_
  refine tkq 15 ?_
  refine tkq 16 ?_
  refine tkq 17 ?_
  refine wpAnyH_ready (rs := [18, 23]) (by kernel_rfl) (by simp) ?_
  refine AllReadyH.cons (by simp only [List.getElem?_toArray, List.getElem?_cons_zero, List.getElem?_cons_succ]; rfl) (fun K hK => ?_) (AllReadyH.cons (by simp only [List.getElem?_toArray, List.getElem?_cons_zero, List.getElem?_cons_succ]; rfl) (fun K hK => ?_) AllReadyH.nil)
  · go_simp
    refine (HCP _ ((Upd.refl _ _).drew)).out.mono ?_
    rintro x5 w5 ⟨rfl, o5, h5, f5⟩
    have z5 : w1.heap.size ≤ w5.heap.size := f5.upd.size
    have m0 : k ≠ w5.heap.size := by omega
    have m1 : e ≠ w5.heap.size := by omega
    have m2 : PB ≠ w5.heap.size := by omega
    have hN5 : Blk (w5.alloc (.cells zI TE)) w5.heap.size zI TE := Blk.new _ _ _
    obtain ⟨q0, q1, q2, q3, q4, r0, r1, r2, r3, r4⟩ := cells5 hN5
    refine hK.out _ _ (by (try dsimp only); exact six_fol hHeld f5 HK2.out HK2.out HN2.out HN1.out HN1.out HN1.out) (fun hHeld => ?_)
    clear hK K
    have hH5 := hHeld
    refine tkq 19 ?_
    refine tkq 20 ?_
    refine tkq 21 ?_
    refine tkq 22 ?_
    refine rdq 23 fun K hK => ?_
    go_simp
    refine hK.out _ _ (by (try dsimp only); exact six_old hHeld ((Upd.refl _ _).alloc _)) (fun hHeld => ?_)
    clear hK K
    refine rdq 24 fun K hK => ?_
    go_simp
    refine hK.out _ _ (by with_reducible exact six_old hH5 ((Upd.refl _ _).alloc _)) (fun hHeld => ?_)
    clear hK K
    refine tkq 25 ?_
    refine tkq 26 ?_
    refine wpAnyH_done (by kernel_rfl) ?_ _
    go_wp2_with fail
    go_meet
    have hfin : Upd Nowhere w5 (w5.alloc (.cells zI TE)) := (Upd.refl _ _).alloc _
    exact ⟨_, o5, rfl, rfl, rfl, (rgC b L').kp h5 hfin (fun _ _ h => h), (((Fol.refl _ _).old ((Upd.refl _ _).drew)).trans f5).old hfin⟩
  · go_simp
    have hN0 : Blk (w1.alloc (.cells zI TE)).drew w1.heap.size zI TE := (Blk.new _ _ _).drew
    have hno2 : ¬ o2 w1.heap.size := fun h9 => absurd (HLT2.out _ h9) (Nat.lt_irrefl _)
    have hw1 : w1.heap.size < (w1.alloc (.cells zI TE)).drew.heap.size := Blk.lt hN0
    refine hK.out _ _ (by (try dsimp only); exact six_old ⟨c16, c30, hnw1, b0, b1, b2⟩ (((Upd.refl _ _).alloc _).drew)) (fun hHeld => ?_)
    clear hK K
    have m0 : k ≠ w1.heap.size := by omega
    have m1 : e ≠ w1.heap.size := by omega
    have m2 : PB ≠ w1.heap.size := by omega
    refine rdq 18 fun K hK => ?_
    go_simp
    refine (HCP _ (((Upd.refl _ _).alloc _).drew)).out.mono ?_
    rintro x5 w5 ⟨rfl, o5, h5, f5⟩
    have hN5 := f5.blk hN0 hno2
    have hno5 := f5.off hno2 hw1
    obtain ⟨q0, q1, q2, q3, q4, r0, r1, r2, r3, r4⟩ := cells5 hN5
    refine hK.out _ _ (by (try dsimp only); exact six_fol hHeld f5 HK2.out HK2.out HN2.out HN1.out HN1.out HN1.out) (fun hHeld => ?_)
    clear hK K
    refine tkq 19 ?_
    refine tkq 20 ?_
    refine tkq 21 ?_
    refine tkq 22 ?_
    refine rdq 24 fun K hK => ?_
    go_simp
    have hS9 := six_put (x0 := .int .u32 0) (x1 := .int .u32 0) (x2 := .int .u64 0) (x3 := .int .u64 0) (x4 := .int .i64 0) hHeld m0 m0 m1 m2 m2 m2
    refine hK.out _ _ (by with_reducible exact hS9) (fun hHeld => ?_)
    clear hK K
    refine tkq 25 ?_
    refine tkq 26 ?_
    refine wpAnyH_done (by kernel_rfl) ?_ _
    go_wp2_with fail
    go_meet
    have hfin := put_upd5 (x0 := .int .u32 0) (x1 := .int .u32 0) (x2 := .int .u64 0) (x3 := .int .u64 0) (x4 := .int .i64 0) (Upd.refl (fun q => q = w1.heap.size) w5)
    exact ⟨_, o5, rfl, rfl, rfl, (rgC b L').kp h5 hfin (fun q hq h9 => hno5 (by rw [← h9]; exact hq)), (((Fol.refl _ _).old (((Upd.refl _ _).alloc _).drew)).trans f5).ret hfin (Nat.le_refl _)⟩
 case rest =>
  obtain ⟨p, o3, rfl, rfl, rfl, hRq3, f3⟩ := hcut
  obtain ⟨w3, rfl⟩ : ∃ x, x = wc := ⟨_, rfl⟩
  have hB3 := f3.blk HB.out HK2.out
  have hPB3 := f3.blk HPB1.out HN1.out
  have HPB3 := Lib.hid hPB3
  have HB3 := Lib.hid hB3
  have HQ3 := Lib.hid hRq3
  have F3 := Lib.hid f3
  have hPBk : ¬ PB = k := fun h9 => HNO1.out (by rw [h9]; exact HKO.out)
  clear c16 c30 b0 b1 b2 hnw1 hRq3 f3 hPB3 hB3 HCP HPB1 HB HKO
  obtain ⟨bb, hbb⟩ : ∃ bb, (s.bys + p2) % 18446744073709551616 = bb := ⟨_, rfl⟩
  obtain ⟨nn, hnn⟩ : ∃ nn, s.inn + 1 = nn := ⟨_, rfl⟩
  have e1 : IntKind.u64.wrap ((s.bys : Int) + p2) = (bb : Int) := by rw [IntKind.wrap_u64]; have := HS3.out; have := HP2.out; omega
  have e2 : IntKind.i64.wrap ((s.inn : Int) + 1) = (nn : Int) := by rw [IntKind.wrap_i64]; have := HS1.out; have := HCC.out; omega
  have HBB := Lib.hid hbb
  have HNN := Lib.hid hnn
  clear hbb hnn
  have c17 := kc17 HB3.out
  have c30 := kc30 HB3.out
  have z17 := Blk.free HB3.out 17
  have z30 := Blk.free HB3.out 30
  obtain ⟨b0, b1, b2, -⟩ := cells3 HPB3.out
  go_wp2_with fail
  refine wp_region_tail 9 (by kernel_rfl) (by kernel_rfl) ?_
  simp only [List.take_succ_cons, List.take_zero, List.drop_succ_cons, List.drop_zero]
  repeat (go_big_quiet_step (fail))
  refine wpQuiet_nil ?_
  rintro _ ⟨nq, rfl⟩
  go_wp2_with fail
  refine Stage.out ?_
  go_wp2_with fail
  go_ret
  obtain ⟨o', h8, h9⟩ := HKK.out w3 ((((w3).drewN nq).setCell ⟨k, 17, none⟩ (.int .u64 (bb : Nat))).setCell ⟨k, 30, none⟩ (.int .i64 (nn : Nat))) o3 (kin s nw (p0, p1, p2)) (by unfold kin; dsimp only; rw [HL'.out]; exact HQ3.out) F3.out (((((Upd.refl _ _).drewN nq).setOne 17 _).setOne 30 _)) (by unfold kin; dsimp only; rw [HBB.out, HNN.out]; simpa using ((Blk.drewN HB3.out nq).set 17 (.int .u64 (bb : Nat))).set 30 (.int .i64 (nn : Nat)))
  exact ⟨rfl, o', h8, F1.out.trans h9⟩
theorem push_any {w : World} {own : Nat → Prop} {e : Nat} {E : Eg} {c i k b : Nat} {s : Ek} (h : EgP w own e E) (hE : OkE E c) (hc : c < 1000000000) (hx : E.q[i]? = some (k, b, s)) (hroom : s.l.length < 4096) (rank p0 p1 p2 : Nat) (hp1 : 1 ≤ p2) (hp2 : p2 ≤ 65535) :
 Calls Tryz.prog 14 #[.pointer (some ⟨e, 0, none⟩), .int .i64 i, .int .u64 rank, VP (p0, p1, p2)] w fun x w' => x = .returned (.int .i64 0) ∧ ∃ own', EgP w' own' e { E with q := E.q.set i (k, b, kin s E.now (p0, p1, p2)) } ∧ Fol w own w' own' := by
 obtain ⟨o, hC, hoe, ho, hoo, hK⟩ := h.cls hx
 refine (push_in h hE hc hx hroom rank p0 p1 p2 hp1 hp2 hC hoe).mono ?_
 rintro x w' ⟨e1, o', h1, h2⟩
 exact ⟨e1, hK w' o' _ h1 h2⟩
end Go.Proofs.YtpgpjjkeginbbaaGreatDoor.Ea

