/- Eg2, one behind the other. -/
import Derived.Test.YtdddfmdcjjbegaaGreatMeEg
import Derived.Test.YtdddfmdcjjbegaaGreatMeTk
namespace Go.Proofs.YtdddfmdcjjbegaaGreat.Egs
open Go.RowKit Go.Proofs BigFrame
open RingW (It KI zI ZI VI TE)
open First (Cf VC)
set_option maxHeartbeats 40000000
set_option maxRecDepth 1000000
set_option linter.unusedSimpArgs false
/-- An egress that may be. -/
structure OkE (E : Eg) (c : Nat) : Prop where
 pl1 : ∀ x ∈ E.pl, x.1 < 256 ∧ x.2 < 18446744073709551616
 pl2 : E.pl = [] ∨ Plan.ok E.pl = true
 pc1 : 1 ≤ E.pace
 pc2 : E.pace ≤ 65536
 now : E.now ≤ 18446744073709551615
 busy : E.busy ≤ 18446744073709551615
 n1 : 1 ≤ E.q.length
 n2 : E.q.length ≤ 8
 q : ∀ x ∈ E.q, OkF x.2.1 ∧ OkS x.2.1 x.2.2 E.now c
/-- A packet comes into a class. -/
def pushS (cf : Cf) (s : Cs) (now rank : Nat) (p : Nat × Nat × Nat) : Nat × Cs :=
 if (mayS cf s rank).1 = 0 then
  if (psh (wst cf) cf.room.toNat s.l rank (p.1, p.2.1, p.2.2, now, s.inn)).2.2.2 = true then (21, { (mayS cf s rank).2 with l := (psh (wst cf) cf.room.toNat s.l rank (p.1, p.2.1, p.2.2, now, s.inn)).1 })
  else (0, { (mayS cf s rank).2 with
   l := (psh (wst cf) cf.room.toNat s.l rank (p.1, p.2.1, p.2.2, now, s.inn)).1
   bys := (if (psh (wst cf) cf.room.toNat s.l rank (p.1, p.2.1, p.2.2, now, s.inn)).2.2.1 = true then s.bys - (psh (wst cf) cf.room.toNat s.l rank (p.1, p.2.1, p.2.2, now, s.inn)).2.1.2.2.1 else s.bys) + p.2.2
   inn := s.inn + 1
   drp := if (psh (wst cf) cf.room.toNat s.l rank (p.1, p.2.1, p.2.2, now, s.inn)).2.2.1 = true then s.drp + 1 else s.drp })
 else mayS cf s rank
def pushE (E : Eg) (i : Int) (rank : Nat) (p : Nat × Nat × Nat) : Nat × Eg :=
 if i < 0 ∨ (E.q.length : Int) ≤ i then (7, E)
 else if p.2.2 = 0 ∨ 65535 < p.2.2 then (12, E)
 else match E.q[i.toNat]? with
  | none => (7, E)
  | some (k, cf, s) => ((pushS cf s E.now rank p).1, { E with q := E.q.set i.toNat (k, cf, (pushS cf s E.now rank p).2) })
theorem mayS_eq (cf : Cf) (s : Cs) (rank : Nat) : ∃ m ct g wi, (mayS cf s rank).2 = { s with mean := m, cnt := ct, gw := g, win := wi } := by
 unfold mayS
 split
 · exact ⟨_, _, _, _, rfl⟩
 · split
   · exact ⟨s.mean, s.cnt, _, _, rfl⟩
   · split
     · exact ⟨_, _, _, _, rfl⟩
     · split
       · exact ⟨_, _, s.gw, s.win, rfl⟩
       · exact ⟨_, _, _, _, rfl⟩
theorem mayS_room {cf : Cf} {s : Cs} {rank now c : Nat} (hs : OkS cf s now c) (h : (mayS cf s rank).1 = 0) : wst cf = false → s.l.length < cf.room.toNat := by
 intro hw
 have h4 : ¬ cf.policy = 4 := by unfold wst at hw; exact of_decide_eq_false hw
 unfold mayS at h
 rw [if_neg h4] at h
 by_cases h3 : cf.policy = 3
 · rw [if_pos h3] at h
   dsimp only at h
   split at h
   · rename_i hm
     have := (of_decide_eq_true hm).1
     rw [hs.gw1 h3] at this
     exact this
   · cases h
 · rw [if_neg h3] at h
   by_cases hl : cf.room.toNat ≤ s.l.length
   · rw [if_pos hl] at h; cases h
   · omega
theorem psh_out {wst : Bool} {room rank : Nat} {l L : List (Nat × It)} {x y : It} (h : psh wst room l rank x = (L, y, true, false)) : ∃ r, (r, y) ∈ l := by
 unfold psh at h
 cases wst with
 | false => simp at h
 | true =>
   rw [if_pos rfl] at h
   by_cases hl : l.length < room
   · rw [if_pos hl] at h; simp at h
   · rw [if_neg hl] at h
     cases hg : l.getLast? with
     | none => rw [hg] at h; simp at h
     | some a =>
       obtain ⟨r, z⟩ := a
       rw [hg] at h
       dsimp only at h
       by_cases hr : r ≤ rank
       · rw [if_pos hr] at h; simp at h
       · rw [if_neg hr] at h
         injection h with _ h
         injection h with h _
         subst h
         exact ⟨r, List.mem_of_getLast? hg⟩
theorem sum_mem {l : List (Nat × It)} {a : Nat × It} (h : a ∈ l) : a.2.2.2.1 ≤ (l.map (fun a => a.2.2.2.1)).sum := by
 induction l with
 | nil => cases h
 | cons b t ih =>
   rw [List.map_cons, List.sum_cons]
   rcases List.mem_cons.1 h with rfl | h
   · omega
   · have := ih h; omega
section
variable {u u' : World} {o o' : Nat → Prop} {a0 a1 a2 a3 a4 a5 : Addr} {v0 v1 v2 v3 v4 v5 : Value}
theorem six_old (h : u.cell? a0 = some v0 ∧ u.cell? a1 = some v1 ∧ u.cell? a2 = some v2 ∧ u.cell? a3 = some v3 ∧ u.cell? a4 = some v4 ∧ u.cell? a5 = some v5) (hu : Upd Nowhere u u') : u'.cell? a0 = some v0 ∧ u'.cell? a1 = some v1 ∧ u'.cell? a2 = some v2 ∧ u'.cell? a3 = some v3 ∧ u'.cell? a4 = some v4 ∧ u'.cell? a5 = some v5 := by
 obtain ⟨h0, h1, h2, h3, h4, h5⟩ := h
 exact ⟨cell_old hu h0, cell_old hu h1, cell_old hu h2, cell_old hu h3, cell_old hu h4, cell_old hu h5⟩
theorem six_fol (h : u.cell? a0 = some v0 ∧ u.cell? a1 = some v1 ∧ u.cell? a2 = some v2 ∧ u.cell? a3 = some v3 ∧ u.cell? a4 = some v4 ∧ u.cell? a5 = some v5) (hf : Fol u o u' o') (n0 : ¬ o a0.block) (n1 : ¬ o a1.block) (n2 : ¬ o a2.block) (n3 : ¬ o a3.block) (n4 : ¬ o a4.block) (n5 : ¬ o a5.block) : u'.cell? a0 = some v0 ∧ u'.cell? a1 = some v1 ∧ u'.cell? a2 = some v2 ∧ u'.cell? a3 = some v3 ∧ u'.cell? a4 = some v4 ∧ u'.cell? a5 = some v5 := by
 obtain ⟨h0, h1, h2, h3, h4, h5⟩ := h
 exact ⟨hf.cell h0 n0, hf.cell h1 n1, hf.cell h2 n2, hf.cell h3 n3, hf.cell h4 n4, hf.cell h5 n5⟩
theorem six_set (h : u.cell? a0 = some v0 ∧ u.cell? a1 = some v1 ∧ u.cell? a2 = some v2 ∧ u.cell? a3 = some v3 ∧ u.cell? a4 = some v4 ∧ u.cell? a5 = some v5) {a : Addr} {v : Value} (n0 : a0.block ≠ a.block) (n1 : a1.block ≠ a.block) (n2 : a2.block ≠ a.block) (n3 : a3.block ≠ a.block) (n4 : a4.block ≠ a.block) (n5 : a5.block ≠ a.block) : (u.setCell a v).cell? a0 = some v0 ∧ (u.setCell a v).cell? a1 = some v1 ∧ (u.setCell a v).cell? a2 = some v2 ∧ (u.setCell a v).cell? a3 = some v3 ∧ (u.setCell a v).cell? a4 = some v4 ∧ (u.setCell a v).cell? a5 = some v5 := by
 obtain ⟨h0, h1, h2, h3, h4, h5⟩ := h
 exact ⟨by rw [World.cell?_of_block (w := u) (Below.heap_setCell _ _ _ _ n0)]; exact h0, by rw [World.cell?_of_block (w := u) (Below.heap_setCell _ _ _ _ n1)]; exact h1, by rw [World.cell?_of_block (w := u) (Below.heap_setCell _ _ _ _ n2)]; exact h2, by rw [World.cell?_of_block (w := u) (Below.heap_setCell _ _ _ _ n3)]; exact h3, by rw [World.cell?_of_block (w := u) (Below.heap_setCell _ _ _ _ n4)]; exact h4, by rw [World.cell?_of_block (w := u) (Below.heap_setCell _ _ _ _ n5)]; exact h5⟩
theorem six_put (h : u.cell? a0 = some v0 ∧ u.cell? a1 = some v1 ∧ u.cell? a2 = some v2 ∧ u.cell? a3 = some v3 ∧ u.cell? a4 = some v4 ∧ u.cell? a5 = some v5) {N : Nat} {x0 x1 x2 x3 x4 : Value} (n0 : a0.block ≠ N) (n1 : a1.block ≠ N) (n2 : a2.block ≠ N) (n3 : a3.block ≠ N) (n4 : a4.block ≠ N) (n5 : a5.block ≠ N) : ((((((u.setCell ⟨N, 0, none⟩ x0).setCell ⟨N, 1, none⟩ x1).setCell ⟨N, 2, none⟩ x2).setCell ⟨N, 3, none⟩ x3).setCell ⟨N, 4, none⟩ x4)).cell? a0 = some v0 ∧ ((((((u.setCell ⟨N, 0, none⟩ x0).setCell ⟨N, 1, none⟩ x1).setCell ⟨N, 2, none⟩ x2).setCell ⟨N, 3, none⟩ x3).setCell ⟨N, 4, none⟩ x4)).cell? a1 = some v1 ∧ ((((((u.setCell ⟨N, 0, none⟩ x0).setCell ⟨N, 1, none⟩ x1).setCell ⟨N, 2, none⟩ x2).setCell ⟨N, 3, none⟩ x3).setCell ⟨N, 4, none⟩ x4)).cell? a2 = some v2 ∧ ((((((u.setCell ⟨N, 0, none⟩ x0).setCell ⟨N, 1, none⟩ x1).setCell ⟨N, 2, none⟩ x2).setCell ⟨N, 3, none⟩ x3).setCell ⟨N, 4, none⟩ x4)).cell? a3 = some v3 ∧ ((((((u.setCell ⟨N, 0, none⟩ x0).setCell ⟨N, 1, none⟩ x1).setCell ⟨N, 2, none⟩ x2).setCell ⟨N, 3, none⟩ x3).setCell ⟨N, 4, none⟩ x4)).cell? a4 = some v4 ∧ ((((((u.setCell ⟨N, 0, none⟩ x0).setCell ⟨N, 1, none⟩ x1).setCell ⟨N, 2, none⟩ x2).setCell ⟨N, 3, none⟩ x3).setCell ⟨N, 4, none⟩ x4)).cell? a5 = some v5 :=
 six_set (six_set (six_set (six_set (six_set h n0 n1 n2 n3 n4 n5) n0 n1 n2 n3 n4 n5) n0 n1 n2 n3 n4 n5) n0 n1 n2 n3 n4 n5) n0 n1 n2 n3 n4 n5
theorem put_blk5 {N : Nat} {x0 x1 x2 x3 x4 y0 y1 y2 y3 y4 : Value} {T : TypeId} (h : Blk u N #[y0, y1, y2, y3, y4] T) : Blk (((((u.setCell ⟨N, 0, none⟩ x0).setCell ⟨N, 1, none⟩ x1).setCell ⟨N, 2, none⟩ x2).setCell ⟨N, 3, none⟩ x3).setCell ⟨N, 4, none⟩ x4) N #[x0, x1, x2, x3, x4] T := by
 simpa using ((((h.set 0 x0).set 1 x1).set 2 x2).set 3 x3).set 4 x4
theorem put_upd5 {w : World} {N : Nat} {x0 x1 x2 x3 x4 : Value} (h : Upd (fun q => q = N) w u) : Upd (fun q => q = N) w (((((u.setCell ⟨N, 0, none⟩ x0).setCell ⟨N, 1, none⟩ x1).setCell ⟨N, 2, none⟩ x2).setCell ⟨N, 3, none⟩ x3).setCell ⟨N, 4, none⟩ x4) :=
 ((((h.setOne 0 x0).setOne 1 x1).setOne 2 x2).setOne 3 x3).setOne 4 x4
end
/-- A class's row, and what becomes of the class once the row turned, and its block was written. -/
theorem ClsP.row {w : World} {own : Nat → Prop} {k : Nat} {cf : Cf} {s : Cs} (h : ClsP w own k cf s) :
 ∃ v gv o2, Blk w k (KC cf s v gv) TK ∧ Rq (wst cf) w v o2 cf.room.toNat s.inn s.l ∧ ¬ o2 k ∧ (∀ q, o2 q → own q) ∧ own k ∧
  ∀ (w' w'' : World) (o2' : Nat → Prop) (s' : Cs), Rq (wst cf) w' v o2' cf.room.toNat s'.inn s'.l → Fol w o2 w' o2' → s'.gw = s.gw → s'.win = s.win → Upd (fun q => q = k) w' w'' → Blk w'' k (KC cf s' v gv) TK → ∃ own', ClsP w'' own' k cf s' ∧ Fol w own w'' own' := by
 obtain ⟨v, gv, oa, ob, ⟨hB, hoa⟩, ⟨oc, od, hR, hGS, hd2, hm2⟩, hd1, hm1⟩ := h
 have hka : oa k := (hoa k).2 rfl
 have hkb : ¬ ob k := hd1 k hka
 have hkc : ¬ oc k := fun h => hkb ((hm2 k).2 (.inl h))
 have hkd : ¬ od k := fun h => hkb ((hm2 k).2 (.inr h))
 have hklt : k < w.heap.size := Blk.lt hB
 refine ⟨v, gv, oc, hB, hR, hkc, fun q hq => (hm1 q).2 (.inr ((hm2 q).2 (.inl hq))), (hm1 k).2 (.inl hka), fun w' w'' o2' s' hR' hF hgw hwin hu hB' => ?_⟩
 have hk2 : ¬ o2' k := fun h => (hF.at_ k h).elim hkc (fun h2 => absurd hklt (Nat.not_lt.2 h2))
 have hG2 : Sep w'' [gateC cf gv s'.gw s'.win] od := by
  rw [hgw, hwin]
  exact (hGS.kp hF.upd (fun q hq h => hd2 q h hq)).kp hu (fun q hq h => hkd (by rw [← h]; exact hq))
 have hdl : ∀ q, od q → q < w.heap.size := fun q hq => Sep.lt hGS hq
 refine ⟨fun q => oa q ∨ (o2' q ∨ od q), ⟨v, gv, oa, fun q => o2' q ∨ od q, ⟨hB', hoa⟩, ⟨o2', od, Rq.kept hR' hu (fun q hq h => hk2 (by rw [← h]; exact hq)), hG2, fun q hq hq' => ?_, fun _ => Iff.rfl⟩, fun q hq hq' => ?_, fun _ => Iff.rfl⟩, fun q hq => ?_, ?_⟩
 · rcases hF.at_ q hq with h1 | h1
   · exact hd2 q h1 hq'
   · exact absurd (hdl q hq') (Nat.not_lt.2 h1)
 · rw [(hoa q).1 hq] at hq'
   rcases hq' with h1 | h1
   · exact hk2 h1
   · exact hkd h1
 · rcases hq with hq | hq | hq
   · exact .inl ((hm1 q).2 (.inl hq))
   · exact (hF.at_ q hq).imp (fun h => (hm1 q).2 (.inr ((hm2 q).2 (.inl h)))) id
   · exact .inl ((hm1 q).2 (.inr ((hm2 q).2 (.inr hq))))
 · exact (hF.upd.mono fun q _ hq => (hm1 q).2 (.inr ((hm2 q).2 (.inl hq)))).trans hu (fun q _ hq => by rw [hq]; exact (hm1 k).2 (.inl hka))
abbrev PBc (p0 p1 p2 : Nat) : Array Value := #[.int .u32 p0, .int .u32 p1, .int .u64 p2]
theorem push_none {w : World} {own : Nat → Prop} {e : Nat} {E : Eg} {c : Nat} (h : EgP w own e E) (hE : OkE E c) {i : Int} (hi : i < 0 ∨ (E.q.length : Int) ≤ i) (rank p0 p1 p2 : Nat) :
 Calls Tryz.prog 13 #[.pointer (some ⟨e, 0, none⟩), .int .i64 i, .int .u64 rank, VP p0 p1 p2] w fun x w' => x = .returned (.int .i64 7) ∧ Upd Nowhere w w' := by
 obtain ⟨_, ac, cc, ap, cp, hB, -, -⟩ := h.blk hE.pl1
 have hU : Upd Nowhere w (w.alloc (.cells (PBc p0 p1 p2) TP)) := (Upd.refl _ _).alloc _
 have c0 : (w.alloc (.cells (PBc p0 p1 p2) TP)).cell? ⟨e, 0, none⟩ = some (.slice ac E.q.length cc) := cell_old hU (hB.cellAt rfl)
 have HC := Lib.hid (class_no c0 hi)
 clear h hE hi hB c0
 go_enter Tryz.func13, Tryz.ntmps13
 go_wp2_with fail
 refine (HC.out).mono ?_
 rintro x w' ⟨rfl, rfl⟩
 go_wp2_with fail
 go_ret
 exact ⟨rfl, hU⟩
theorem push_len {w : World} {own : Nat → Prop} {e : Nat} {E : Eg} {c i : Nat} (h : EgP w own e E) (hE : OkE E c) (hi : i < E.q.length) (rank p0 p1 p2 : Nat) (hp : p2 = 0 ∨ 65535 < p2) :
 Calls Tryz.prog 13 #[.pointer (some ⟨e, 0, none⟩), .int .i64 i, .int .u64 rank, VP p0 p1 p2] w fun x w' => x = .returned (.int .i64 12) ∧ Upd Nowhere w w' := by
 obtain ⟨_, ac, cc, ap, cp, hB, hK, -⟩ := h.blk hE.pl1
 obtain ⟨⟨k, cf, s⟩, hx⟩ : ∃ x, E.q[i]? = some x := ⟨E.q[i], by simp [hi]⟩
 obtain ⟨g, rfl, hg⟩ := hK i _ hx
 have hU : Upd Nowhere w (w.alloc (.cells (PBc p0 p1 p2) TP)) := (Upd.refl _ _).alloc _
 have c0 : (w.alloc (.cells (PBc p0 p1 p2) TP)).cell? ⟨e, 0, none⟩ = some (.slice (some ⟨g, 0, none⟩) E.q.length cc) := cell_old hU (hB.cellAt rfl)
 have HC := Lib.hid (class_at c0 hi (cell_old hU hg))
 clear h hE hi hB c0 hK hx hg
 by_cases h0 : p2 = 0
 · have d0 : ((p2 : Int) == 0) = true := by simp; omega
   clear hp h0
   go_enter Tryz.func13, Tryz.ntmps13
   go_wp2_with fail
   refine (HC.out).mono ?_
   rintro x w' ⟨rfl, rfl⟩
   go_wp2_with fail
   go_ret
   exact ⟨rfl, hU⟩
 · have d0 : ((p2 : Int) == 0) = false := by simp; omega
   have d1 : decide (65535 < p2) = true := decide_eq_true (by omega)
   have d2 : decide ((65535 : Int) < (p2 : Int)) = true := decide_eq_true (by omega)
   clear hp h0
   go_enter Tryz.func13, Tryz.ntmps13
   go_wp2_with fail
   refine (HC.out).mono ?_
   rintro x w' ⟨rfl, rfl⟩
   go_wp2_with fail
   go_ret
   exact ⟨rfl, hU⟩
/-- A class once its block is written, its row being another one already. -/
theorem push_in {w : World} {own o : Nat → Prop} {e : Nat} {E : Eg} {c i k : Nat} {cf : Cf} {s : Cs} (h : EgP w own e E) (hE : OkE E c) (hc : c < 1000000000) (hx : E.q[i]? = some (k, cf, s)) (rank p0 p1 p2 : Nat) (hp1 : 1 ≤ p2) (hp2 : p2 ≤ 65535)
 (hC : ClsP w o k cf s) (hoe : ¬ o e) :
 Calls Tryz.prog 13 #[.pointer (some ⟨e, 0, none⟩), .int .i64 i, .int .u64 rank, VP p0 p1 p2] w fun x w' => x = .returned (.int .i64 ((pushS cf s E.now rank (p0, p1, p2)).1 : Nat)) ∧ ∃ o', ClsP w' o' k cf (pushS cf s E.now rank (p0, p1, p2)).2 ∧ Fol w o w' o' := by
 obtain ⟨_, ac, cc, ap, cp, hB, hK, -⟩ := h.blk hE.pl1
 have hi : i < E.q.length := by
  rcases Nat.lt_or_ge i E.q.length with h' | h'
  · exact h'
  · rw [List.getElem?_eq_none h'] at hx; cases hx
 obtain ⟨g, rfl, hg⟩ := hK i _ hx
 obtain ⟨hf, hs⟩ := hE.q _ (List.mem_of_getElem? hx)
 dsimp only at hf hs hg
 have hU : Upd Nowhere w (w.alloc (.cells (PBc p0 p1 p2) TP)) := (Upd.refl _ _).alloc _
 have hPB : Blk (w.alloc (.cells (PBc p0 p1 p2) TP)) w.heap.size (PBc p0 p1 p2) TP := Blk.new _ _ _
 have c0 : (w.alloc (.cells (PBc p0 p1 p2) TP)).cell? ⟨e, 0, none⟩ = some (.slice (some ⟨g, 0, none⟩) E.q.length cc) := cell_old hU (hB.cellAt rfl)
 have HC := Lib.hid (class_at c0 hi (cell_old hU hg))
 have hlt : ∀ q, o q → q < w.heap.size := fun q hq => (clsC k cf s).lt hC hq
 have hC0 : ClsP (w.alloc (.cells (PBc p0 p1 p2) TP)) o k cf s := (clsC k cf s).kp hC hU (fun _ _ h => h)
 have HM := Lib.hid (may_ok hC0 hf hs rank)
 have hnow : w.cell? ⟨e, 3, none⟩ = some (.int .u64 (E.now : Nat)) := hB.cellAt rfl
 obtain ⟨hke, v, gv, o1, hBk, -⟩ := hC.blk
 have hek : e ≠ k := fun he => hoe (by rw [he]; exact hke)
 have d0 : ((p2 : Int) == 0) = false := by simp; omega
 have d1 : decide (65535 < p2) = false := decide_eq_false (by omega)
 have d2 : decide ((65535 : Int) < (p2 : Int)) = false := decide_eq_false (by omega)
 obtain ⟨R, hR⟩ : ∃ R, pushS cf s E.now rank (p0, p1, p2) = R := ⟨_, rfl⟩
 rw [hR]
 have HP2 := Lib.hid hp2
 have HCC := Lib.hid hc
 have HF := Lib.hid hf
 have HS := Lib.hid hs
 have HR := Lib.hid hR
 have HLT := Lib.hid hlt
 have HOE := Lib.hid hoe
 obtain ⟨PB, hPBe⟩ : ∃ PB, w.heap.size = PB := ⟨_, rfl⟩
 have HNOW := Lib.hid (cell_old hU hnow)
 have F0 := Lib.hid ((Fol.refl w o).old hU)
 have HPE := Lib.hid hPBe
 rw [hPBe] at hPB
 have HPB := Lib.hid hPB
 obtain ⟨nw, hnw⟩ : ∃ nw, E.now = nw := ⟨_, rfl⟩
 rw [hnw] at HNOW HR HS
 clear h hE hx hC hoe hB hK hg hi hf hs hPB hU c0 hC0 hnow hBk hke hlt hR hnw hPBe hp1 hp2
 go_enter Tryz.func13, Tryz.ntmps13
 go_upto_region 1 with fail
 obtain ⟨w0, hw0⟩ : ∃ x, x = w.alloc (.cells (PBc p0 p1 p2) TP) := ⟨_, rfl⟩
 rw [← hw0] at HC HM HNOW F0 HPB
 generalize w.alloc (.cells (PBc p0 p1 p2) TP) = wz at hw0 ⊢
 subst hw0
 try simp only [HPE.out]
 obtain ⟨b0, b1, b2, -⟩ := cells3 HPB.out
 go_wp2_with fail
 refine (HC.out).mono ?_
 rintro x w' ⟨rfl, rfl⟩
 go_wp2_with fail
 refine (HM.out).mono ?_
 rintro x w1 ⟨rfl, o1', h1, f1⟩
 have hno : ¬ o PB := fun h9 => absurd (HLT.out _ h9) (by rw [HPE.out]; exact Nat.lt_irrefl _)
 have hPB1 := f1.blk HPB.out hno
 have HNO1 := Lib.hid (f1.off hno (Blk.lt HPB.out))
 have HOE1 := Lib.hid (f1.off HOE.out (cell_lt HNOW.out))
 have HNOW1 := Lib.hid (f1.cell HNOW.out HOE.out)
 have HPB1 := Lib.hid hPB1
 have F1 := Lib.hid (F0.out.trans f1)
 have H1 := Lib.hid h1
 obtain ⟨y, hy⟩ : ∃ y, (mayS cf s rank).1 = y := ⟨_, rfl⟩
 have HY := Lib.hid hy
 try simp only [hy]
 clear b0 b1 b2 h1 f1 hno hPB1 HM HC F0 HPB HNOW HOE hy
 by_cases hy0 : y = 0
 · subst hy0
   obtain ⟨mm, mc, mg, mw, hms⟩ := mayS_eq cf s rank
   have h1 := H1.out
   have hr := HR.out
   unfold pushS at hr
   rw [if_pos HY.out] at hr
   rw [hms] at h1 hr
   have hroom := mayS_room HS.out HY.out
   have hit : ∀ a ∈ s.l, a.2.2.2.2.2 ≠ s.inn := fun a ha => Nat.ne_of_lt (HS.out.its a ha).2.2.2.1
   have hinn := HS.out.in1
   obtain ⟨v, gv, o2, hB, hRq, hk2, hs2, hko, hKK⟩ := h1.row
   obtain ⟨T, V, fl, fh, fp, ft, M⟩ := hRq.meth
   have HCP := fun u (hu : Upd Nowhere w1 u) => Lib.hid (M.cp (hRq.old hu) hroom (by show s.inn < _; omega) rank (p0, p1, p2, nw, s.inn) hit)
   obtain ⟨⟨L', ⟨y0, y1, y2, y3, y4⟩, IS, OW⟩, hpsh⟩ : ∃ x, psh (wst cf) cf.room.toNat s.l rank (p0, p1, p2, nw, s.inn) = x := ⟨_, rfl⟩
   rw [hpsh] at HCP hr
   dsimp only at HCP hr
   have hout : IS = true → OW = false → y2 ≤ s.bys := fun h1 h2 => by
    subst h1
    subst h2
    obtain ⟨r, hr⟩ := psh_out hpsh
    rw [HS.out.by1]
    exact sum_mem hr
   have HOUT := Lib.hid hout
   have hbys := HS.out.by2 HF.out
   have hdrp := HS.out.le1
   have HBY := Lib.hid hbys
   have HDR : Hid (s.drp ≤ s.inn) := Lib.hid (by omega)
   clear hout hbys hdrp
   have hmp := M.mp
   have hep := M.ep
   have ev := M.eq
   subst ev
   have c16 := kc16 hB
   have c30 := kc30 hB
   obtain ⟨b0, b1, b2, -⟩ := cells3 HPB1.out
   have hnw1 := HNOW1.out
   have n1 : ¬ o2 PB := fun h9 => HNO1.out (hs2 _ h9)
   have n2 : ¬ o2 e := fun h9 => HOE1.out (hs2 _ h9)
   have l1 : k < w1.heap.size := Blk.lt hB
   have l2 : PB < w1.heap.size := Blk.lt HPB1.out
   have l3 : e < w1.heap.size := cell_lt hnw1
   have HRR := Lib.hid hr
   have HKK := Lib.hid hKK
   have HB := Lib.hid hB
   have HK2 := Lib.hid hk2
   have HN1 := Lib.hid n1
   have HN2 := Lib.hid n2
   have HS2 := Lib.hid hs2
   have HINN := Lib.hid hinn
   have HKO : Hid (o1' k) := Lib.hid hko
   have HLT2 : Hid (∀ q, o2 q → q < w1.heap.size) := Lib.hid (fun q hq => Rq.lts hRq hq)
   have hdy : ((0 : Int) != 0) = false := by decide
   clear h1 hr hms hroom hit hB hRq hk2 hs2 hko hKK M hpsh n1 n2 H1 HR HS HY HF hinn
   go_wp2_with fail
   go_upto_region 11 with fail
   go_cut [11, 12, 13] (fun v11 v12 v13 wc => ∃ p o3, v11 = .pointer (some ⟨p, 0, none⟩) ∧ v12 = .bool IS ∧ v13 = .bool OW ∧ Rq (wst cf) wc (.iface T V) o3 cf.room.toNat (if OW = true then s.inn else s.inn + 1) L' ∧ Fol w1 o2 wc o3 ∧ Blk wc p #[.int .u32 y0, .int .u32 y1, .int .u64 y2, .int .u64 y3, .int .i64 y4] TE ∧ w1.heap.size ≤ p ∧ ¬ o3 p)
   case first =>
    refine wp_region_held_drew (S := fun w' => w'.cell? ⟨k, 16, none⟩ = some (.iface T V) ∧ w'.cell? ⟨k, 30, none⟩ = some (.int .i64 (s.inn : Nat)) ∧ w'.cell? ⟨e, 3, none⟩ = some (.int .u64 nw) ∧ w'.cell? ⟨PB, 0, none⟩ = some (.int .u32 p0) ∧ w'.cell? ⟨PB, 1, none⟩ = some (.int .u32 p1) ∧ w'.cell? ⟨PB, 2, none⟩ = some (.int .u64 p2)) (by kernel_rfl) (six_old ⟨c16, c30, hnw1, b0, b1, b2⟩ ((Upd.refl _ _).drew)) (fun hHeld => ?_)
    refine tkq 0 ?_
    refine tkq 1 ?_
    refine tkq 2 ?_
    refine tkq 3 ?_
    refine tkq 4 ?_
    refine tkq 5 ?_
    refine tkq 6 ?_
    refine tkq 7 ?_
    refine tkq 8 ?_
    refine tkq 9 ?_
    refine tkq 10 ?_
    refine tkq 11 ?_
    refine tkq 12 ?_
    refine tkq 13 ?_
    refine tkq 14 ?_
    refine tkq 15 ?_
    refine tkq 16 ?_
    refine tkq 17 ?_
    refine wpAnyH_ready (rs := [18, 23]) (by kernel_rfl) (by simp) ?_
    refine AllReadyH.cons (by simp only [List.getElem?_toArray, List.getElem?_cons_zero, List.getElem?_cons_succ]; rfl) (fun K hK => ?_) (AllReadyH.cons (by simp only [List.getElem?_toArray, List.getElem?_cons_zero, List.getElem?_cons_succ]; rfl) (fun K hK => ?_) AllReadyH.nil)
    · go_simp
      refine (HCP _ ((Upd.refl _ _).drew)).out.mono ?_
      rintro x5 w5 ⟨rfl, o5, h5, f5⟩
      have z5 : w1.heap.size ≤ w5.heap.size := f5.upd.size
      have m0 : k ≠ w5.heap.size := by omega
      have m1 : e ≠ w5.heap.size := by omega
      have m2 : PB ≠ w5.heap.size := by omega
      have hN5 : Blk (w5.alloc (.cells zI TE)) w5.heap.size zI TE := Blk.new _ _ _
      obtain ⟨q0, q1, q2, q3, q4, r0, r1, r2, r3, r4⟩ := cells5 hN5
      refine hK.out _ _ (by (try dsimp only); exact six_fol hHeld f5 HK2.out HK2.out HN2.out HN1.out HN1.out HN1.out) (fun hHeld => ?_)
      clear hK K
      have hH5 := hHeld
      refine tkq 19 ?_
      refine tkq 20 ?_
      refine tkq 21 ?_
      refine tkq 22 ?_
      refine rdq 23 fun K hK => ?_
      go_simp
      refine hK.out _ _ (by (try dsimp only); exact six_old hHeld ((Upd.refl _ _).alloc _)) (fun hHeld => ?_)
      clear hK K
      refine rdq 24 fun K hK => ?_
      go_simp
      refine hK.out _ _ (by with_reducible exact six_old hH5 ((Upd.refl _ _).alloc _)) (fun hHeld => ?_)
      clear hK K
      refine tkq 25 ?_
      refine tkq 26 ?_
      refine wpAnyH_done (by kernel_rfl) ?_ _
      go_wp2_with fail
      go_meet
      have hfin : Upd Nowhere w5 (w5.alloc (.cells #[.int .u32 y0, .int .u32 y1, .int .u64 y2, .int .u64 y3, .int .i64 y4] TE)) := (Upd.refl _ _).alloc _
      exact ⟨_, o5, rfl, rfl, rfl, Rq.old h5 hfin, (((Fol.refl _ _).old ((Upd.refl _ _).drew)).trans f5).old hfin, Blk.new _ _ _, z5, fun h9 => absurd (Rq.lts h5 h9) (Nat.lt_irrefl _)⟩
    · go_simp
      have hN0 : Blk (w1.alloc (.cells zI TE)).drew w1.heap.size zI TE := (Blk.new _ _ _).drew
      have hno2 : ¬ o2 w1.heap.size := fun h9 => absurd (HLT2.out _ h9) (Nat.lt_irrefl _)
      have hw1 : w1.heap.size < (w1.alloc (.cells zI TE)).drew.heap.size := Blk.lt hN0
      refine hK.out _ _ (by (try dsimp only); exact six_old ⟨c16, c30, hnw1, b0, b1, b2⟩ (((Upd.refl _ _).alloc _).drew)) (fun hHeld => ?_)
      clear hK K
      have m0 : k ≠ w1.heap.size := by omega
      have m1 : e ≠ w1.heap.size := by omega
      have m2 : PB ≠ w1.heap.size := by omega
      refine rdq 18 fun K hK => ?_
      go_simp
      refine (HCP _ (((Upd.refl _ _).alloc _).drew)).out.mono ?_
      rintro x5 w5 ⟨rfl, o5, h5, f5⟩
      have hN5 := f5.blk hN0 hno2
      have hno5 := f5.off hno2 hw1
      obtain ⟨q0, q1, q2, q3, q4, r0, r1, r2, r3, r4⟩ := cells5 hN5
      refine hK.out _ _ (by (try dsimp only); exact six_fol hHeld f5 HK2.out HK2.out HN2.out HN1.out HN1.out HN1.out) (fun hHeld => ?_)
      clear hK K
      refine tkq 19 ?_
      refine tkq 20 ?_
      refine tkq 21 ?_
      refine tkq 22 ?_
      refine rdq 24 fun K hK => ?_
      go_simp
      have hS9 := six_put (x0 := .int .u32 y0) (x1 := .int .u32 y1) (x2 := .int .u64 y2) (x3 := .int .u64 y3) (x4 := .int .i64 y4) hHeld m0 m0 m1 m2 m2 m2
      refine hK.out _ _ (by with_reducible exact hS9) (fun hHeld => ?_)
      clear hK K
      refine tkq 25 ?_
      refine tkq 26 ?_
      refine wpAnyH_done (by kernel_rfl) ?_ _
      go_wp2_with fail
      go_meet
      have hfin := put_upd5 (x0 := .int .u32 y0) (x1 := .int .u32 y1) (x2 := .int .u64 y2) (x3 := .int .u64 y3) (x4 := .int .i64 y4) (Upd.refl (fun q => q = w1.heap.size) w5)
      exact ⟨_, o5, rfl, rfl, rfl, Rq.kept h5 hfin (fun q hq h9 => hno5 (by rw [← h9]; exact hq)), (((Fol.refl _ _).old (((Upd.refl _ _).alloc _).drew)).trans f5).ret hfin (Nat.le_refl _), put_blk5 hN5, Nat.le_refl _, hno5⟩
   case rest =>
    obtain ⟨p, o3, rfl, rfl, rfl, hRq3, f3, hPp, hpw, hnp⟩ := hcut
    obtain ⟨w3, rfl⟩ : ∃ x, x = wc := ⟨_, rfl⟩
    have hB3 := f3.blk HB.out HK2.out
    have hPB3 := f3.blk HPB1.out HN1.out
    have HP3 := Lib.hid hPp
    have HPB3 := Lib.hid hPB3
    have HB3 := Lib.hid hB3
    have HQ3 := Lib.hid hRq3
    have F3 := Lib.hid f3
    have hpk : ¬ p = k := by omega
    have hPBk : ¬ PB = k := fun h9 => HNO1.out (by rw [h9]; exact HKO.out)
    have hrr := HRR.out
    have HPK := Lib.hid hpk
    have HPBK := Lib.hid hPBk
    clear c16 c30 b0 b1 b2 hnw1 hRq3 f3 hPp hPB3 hB3 HCP HPB1 HB HKO
    cases OW with
    | true =>
      rw [if_pos rfl] at hrr
      subst hrr
      go_wp2_with fail
      go_ret
      obtain ⟨o', h8, h9⟩ := HKK.out w3 w3 o3 { s with mean := mm, cnt := mc, gw := mg, win := mw, l := L' } (by simpa using HQ3.out) F3.out rfl rfl (Upd.refl _ _) HB3.out
      exact ⟨rfl, o', h8, F1.out.trans h9⟩
    | false =>
      rw [if_neg (by simp)] at hrr
      have hq3 : Rq (wst cf) w3 (.iface T V) o3 cf.room.toNat (s.inn + 1) L' := by simpa using HQ3.out
      have HQ4 := Lib.hid hq3
      clear hq3 HQ3 HRR
      cases IS with
      | true =>
        rw [if_pos rfl, if_pos rfl] at hrr
        have HRR := Lib.hid hrr
        clear hrr
        obtain ⟨b1, hb1⟩ : ∃ b1, s.bys - y2 = b1 := ⟨_, rfl⟩
        obtain ⟨dd, hdd⟩ : ∃ dd, s.drp + 1 = dd := ⟨_, rfl⟩
        obtain ⟨bb, hbb⟩ : ∃ bb, b1 + p2 = bb := ⟨_, rfl⟩
        obtain ⟨nn, hnn⟩ : ∃ nn, s.inn + 1 = nn := ⟨_, rfl⟩
        have hy2 := HOUT.out rfl rfl
        have e0 : IntKind.u64.wrap ((s.bys : Int) - y2) = (b1 : Int) := by rw [IntKind.wrap_u64]; have := HBY.out; omega
        have e1 : IntKind.u64.wrap ((b1 : Int) + p2) = (bb : Int) := by rw [IntKind.wrap_u64]; have := HBY.out; have := HP2.out; omega
        have e2 : IntKind.i64.wrap ((s.inn : Int) + 1) = (nn : Int) := by rw [IntKind.wrap_i64]; have := HINN.out; have := HCC.out; omega
        have e3 : IntKind.i64.wrap ((s.drp : Int) + 1) = (dd : Int) := by rw [IntKind.wrap_i64]; have := HINN.out; have := HCC.out; have := HDR.out; omega
        have HB1 := Lib.hid hb1
        have HDD := Lib.hid hdd
        have HBB := Lib.hid hbb
        have HNN := Lib.hid hnn
        clear hbb hnn hb1 hdd hy2
        have c17 := kc17 HB3.out
        have c32 := kc32 HB3.out
        have z17 := Blk.free HB3.out 17
        have z32 := Blk.free HB3.out 32
        obtain ⟨q0, q1, q2, q3, q4, -⟩ := cells5 HP3.out
        go_wp2_with fail
        refine wp_region_tail 10 (by kernel_rfl) (by kernel_rfl) ?_
        simp only [List.take_succ_cons, List.take_zero, List.drop_succ_cons, List.drop_zero]
        repeat (go_big_quiet_step (fail))
        refine wpQuiet_nil ?_
        rintro _ ⟨nq, rfl⟩
        go_upto_region 17 with fail
        refine Stage.out ?_
        go_upto_region 17 with fail
        have HB4 : Hid (Blk (((w3.drewN nq).setCell ⟨k, 17, none⟩ (.int .u64 (b1 : Nat))).setCell ⟨k, 32, none⟩ (.int .i64 (dd : Nat))) k (KC cf { s with mean := mm, cnt := mc, gw := mg, win := mw, bys := b1, drp := dd } (.iface T V) gv) TK) := Lib.hid (by simpa using ((Blk.drewN HB3.out nq).set 17 (.int .u64 (b1 : Nat))).set 32 (.int .i64 (dd : Nat)))
        have HU4 : Hid (Upd (fun q => q = k) w3 (((w3.drewN nq).setCell ⟨k, 17, none⟩ (.int .u64 (b1 : Nat))).setCell ⟨k, 32, none⟩ (.int .i64 (dd : Nat)))) := Lib.hid ((((Upd.refl _ _).drewN nq).setOne 17 _).setOne 32 _)
        generalize ((w3.drewN nq).setCell ⟨k, 17, none⟩ (.int .u64 (b1 : Nat))).setCell ⟨k, 32, none⟩ (.int .i64 (dd : Nat)) = w4 at *
        clear c17 c32 z17 z32 q0 q1 q2 q3 q4
        have hPB4 := HPB3.out.kept HU4.out HPBK.out
        have c17 := kc17 HB4.out
        have c30 := kc30 HB4.out
        have z17 := Blk.free HB4.out 17
        have z30 := Blk.free HB4.out 30
        obtain ⟨b0, b1', b2, -⟩ := cells3 hPB4
        refine wp_region_tail 9 (by kernel_rfl) (by kernel_rfl) ?_
        simp only [List.take_succ_cons, List.take_zero, List.drop_succ_cons, List.drop_zero]
        repeat (go_big_quiet_step (fail))
        refine wpQuiet_nil ?_
        rintro _ ⟨nq2, rfl⟩
        go_wp2_with fail
        refine Stage.out ?_
        go_wp2_with fail
        go_ret
        obtain ⟨o', h8, h9⟩ := HKK.out w3 ((((w4).drewN nq2).setCell ⟨k, 17, none⟩ (.int .u64 (bb : Nat))).setCell ⟨k, 30, none⟩ (.int .i64 (nn : Nat))) o3 { s with mean := mm, cnt := mc, gw := mg, win := mw, l := L', bys := bb, inn := nn, drp := dd } (by rw [← HNN.out]; exact HQ4.out) F3.out rfl rfl (((HU4.out.drewN nq2).setOne 17 _).setOne 30 _) (by simpa using ((Blk.drewN HB4.out nq2).set 17 (.int .u64 (bb : Nat))).set 30 (.int .i64 (nn : Nat)))
        have hr := HRR.out
        rw [HB1.out, HBB.out, HNN.out, HDD.out] at hr
        subst hr
        exact ⟨rfl, o', h8, F1.out.trans h9⟩
      | false =>
        rw [if_neg (by simp), if_neg (by simp)] at hrr
        have HRR := Lib.hid hrr
        clear hrr
        obtain ⟨bb, hbb⟩ : ∃ bb, s.bys + p2 = bb := ⟨_, rfl⟩
        obtain ⟨nn, hnn⟩ : ∃ nn, s.inn + 1 = nn := ⟨_, rfl⟩
        have e1 : IntKind.u64.wrap ((s.bys : Int) + p2) = (bb : Int) := by rw [IntKind.wrap_u64]; have := HBY.out; have := HP2.out; omega
        have e2 : IntKind.i64.wrap ((s.inn : Int) + 1) = (nn : Int) := by rw [IntKind.wrap_i64]; have := HINN.out; have := HCC.out; omega
        have HBB := Lib.hid hbb
        have HNN := Lib.hid hnn
        clear hbb hnn
        have c17 := kc17 HB3.out
        have c30 := kc30 HB3.out
        have z17 := Blk.free HB3.out 17
        have z30 := Blk.free HB3.out 30
        obtain ⟨b0, b1, b2, -⟩ := cells3 HPB3.out
        go_wp2_with fail
        refine wp_region_tail 9 (by kernel_rfl) (by kernel_rfl) ?_
        simp only [List.take_succ_cons, List.take_zero, List.drop_succ_cons, List.drop_zero]
        repeat (go_big_quiet_step (fail))
        refine wpQuiet_nil ?_
        rintro _ ⟨nq, rfl⟩
        go_wp2_with fail
        refine Stage.out ?_
        go_wp2_with fail
        go_ret
        obtain ⟨o', h8, h9⟩ := HKK.out w3 ((((w3).drewN nq).setCell ⟨k, 17, none⟩ (.int .u64 (bb : Nat))).setCell ⟨k, 30, none⟩ (.int .i64 (nn : Nat))) o3 { s with mean := mm, cnt := mc, gw := mg, win := mw, l := L', bys := bb, inn := nn, drp := s.drp } (by rw [← HNN.out]; exact HQ4.out) F3.out rfl rfl (((((Upd.refl _ _).drewN nq).setOne 17 _).setOne 30 _)) (by simpa using ((Blk.drewN HB3.out nq).set 17 (.int .u64 (bb : Nat))).set 30 (.int .i64 (nn : Nat)))
        have hr := HRR.out
        rw [HBB.out, HNN.out] at hr
        subst hr
        exact ⟨rfl, o', h8, F1.out.trans h9⟩
 · have dy : ((y : Int) != 0) = true := by simp; omega
   have hr := HR.out
   unfold pushS at hr
   rw [if_neg (by rw [HY.out]; exact hy0)] at hr
   subst hr
   clear hy0
   try simp only [HY.out]
   go_wp2_with fail
   go_ret
   exact ⟨by rw [HY.out]; rfl, _, H1.out, F1.out⟩
theorem push_any {w : World} {own : Nat → Prop} {e : Nat} {E : Eg} {c : Nat} (h : EgP w own e E) (hE : OkE E c) (hc : c < 1000000000) (i : Int) (rank p0 p1 p2 : Nat) :
 Calls Tryz.prog 13 #[.pointer (some ⟨e, 0, none⟩), .int .i64 i, .int .u64 rank, VP p0 p1 p2] w fun x w' => x = .returned (.int .i64 ((pushE E i rank (p0, p1, p2)).1 : Nat)) ∧ ∃ own', EgP w' own' e (pushE E i rank (p0, p1, p2)).2 ∧ Fol w own w' own' := by
 have old : ∀ {w' : World}, Upd Nowhere w w' → ∃ own', EgP w' own' e E ∧ Fol w own w' own' := fun {w'} hu => ⟨own, (egC e E).kp h hu (fun _ _ h => h), (Fol.refl _ _).old hu⟩
 unfold pushE
 by_cases hi : i < 0 ∨ (E.q.length : Int) ≤ i
 · rw [if_pos hi]
   exact (push_none h hE hi rank p0 p1 p2).mono fun x w' ⟨e1, e2⟩ => ⟨e1, old e2⟩
 · rw [if_neg hi]
   obtain ⟨j, rfl⟩ : ∃ j : Nat, i = j := ⟨i.toNat, by omega⟩
   have hj : j < E.q.length := by omega
   by_cases hp : p2 = 0 ∨ 65535 < p2
   · rw [if_pos hp]
     exact (push_len h hE hj rank p0 p1 p2 hp).mono fun x w' ⟨e1, e2⟩ => ⟨e1, old e2⟩
   · rw [if_neg hp, Int.toNat_natCast]
     obtain ⟨⟨k, cf, s⟩, hx⟩ : ∃ x, E.q[j]? = some x := ⟨E.q[j], by simp [hj]⟩
     rw [hx]
     obtain ⟨o, hC, hoe, ho, hoo, hK⟩ := h.cls hx
     refine (push_in h hE hc hx rank p0 p1 p2 (by omega) (by omega) hC hoe).mono ?_
     rintro x w' ⟨e1, o', h1, h2⟩
     exact ⟨e1, hK w' o' _ h1 h2⟩
end Go.Proofs.YtdddfmdcjjbegaaGreat.Egs

