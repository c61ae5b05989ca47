/- R43N2, R43P0, R43Q, one behind the other. -/
import Derived.Test.YtdddfmdcjjbegaaGreatMrN2
namespace Go.Proofs.YtdddfmdcjjbegaaGreat.R43
open Go.RowKit Go.Proofs BigFrame
open RingW (It)
open First (Cf VC)
open Egs (Cs Eg OkE OkS OkF cri crs crh TRk TRc TP tks goesB opens ClsAt PlnAt dropS m_box mk_off mk_set)
open Aifo (RefIn)
set_option maxHeartbeats 40000000
set_option maxRecDepth 1000000
set_option linter.unusedSimpArgs false
open Egs (nextE zP cfs VP)
variable {w : World} {own : Nat → Prop} {m n cc cp c : Nat} {ad ap : Option Addr} {E : Eg} {R : Rf} {cs : List Cf}
theorem rnext_busy {cv pv : Value} (h : RfP w own m cv pv E.pace R) (hco : Cor E R) (hb : E.now < E.busy) :
 Calls Tryz.prog 30 #[.pointer (some ⟨m, 0, none⟩)] w fun x w' => x = .returned (.tuple #[.int .i64 0, VP 0 0 0, .int .i64 19]) ∧ Upd Nowhere w w' := by
 obtain ⟨_, hM, -⟩ := h.blk
 have hU : Upd Nowhere w (w.alloc (.cells zP TP)) := (Upd.refl _ _).alloc _
 have hR : Blk (w.alloc (.cells zP TP)) w.heap.size zP TP := Blk.new _ _ _
 have k6 : (w.alloc (.cells zP TP)).cell? ⟨m, 6, none⟩ = some (.int .u64 (R.now : Nat)) := cell_old hU (hM.cellAt rfl)
 have k7 : (w.alloc (.cells zP TP)).cell? ⟨m, 7, none⟩ = some (.int .u64 (R.busy : Nat)) := cell_old hU (hM.cellAt rfl)
 rw [hco.now] at k6
 rw [hco.busy] at k7
 have d1 : decide (E.now < E.busy) = true := decide_eq_true hb
 clear h hb hM hco
 go_enter Tryz.func30, Tryz.ntmps30
 go_upto_region 1 with fail
 generalize w.alloc (.cells zP TP) = w1 at *
 obtain ⟨r0, r1, r2, z0, z1, z2⟩ := cells3 hR
 clear hR
 go_wp2_with fail
 go_quiet (fail)
 go_wp2_with fail
 exact bodyPost_ret (v := .tuple #[.int .i64 0, VP 0 0 0, .int .i64 19]) (by simp [results, Tryz.results30, go_sem, r0, r1, r2]) rfl ⟨rfl, (by repeat (first | with_reducible exact hU | with_reducible refine Upd.drewN ?_ _ | with_reducible refine Upd.drew ?_ | with_reducible refine Upd.setNew ?_ (Nat.le_refl _) _))⟩
theorem rnext_any (h : RfP w own m (.slice ad n cc) (.slice ap E.pl.length cp) E.pace R) (hCK : ∀ u, Upd own w u → ClsAt u ad cs ∧ PlnAt u ap E.pl) (hcs : cfs E = cs) (hn : cs.length = n) (hco : Cor E R) (hE : OkE E c) (hc : c < 1000000000) :
 Calls Tryz.prog 30 #[.pointer (some ⟨m, 0, none⟩)] w fun x w' => x = .returned (.tuple #[.int .i64 ((nextE E).1.1 : Nat), VP (nextE E).1.2.1.1 (nextE E).1.2.1.2.1 (nextE E).1.2.1.2.2, .int .i64 ((nextE E).1.2.2 : Nat)]) ∧ ∃ own' q' b', RfP w' own' m (.slice ad n cc) (.slice ap E.pl.length cp) E.pace { R with q := q', busy := b' } ∧ Fol w own w' own' ∧ Cor (nextE E).2 { R with q := q', busy := b' } := by
 by_cases hb : E.now < E.busy
 · have e1 : nextE E = ((0, (0, 0, 0), 19), E) := by unfold nextE; rw [if_pos hb]
   rw [e1]
   exact (rnext_busy h hco hb).mono fun x w' ⟨e1, e2⟩ => ⟨e1, own, R.q, R.busy, (rfC m _ _ E.pace R).kp h e2 (fun _ _ h => h), (Fol.refl _ _).old e2, hco⟩
 · exact rnext_run h hCK hcs hn hco hE hc hb
end Go.Proofs.YtdddfmdcjjbegaaGreat.R43
namespace Go.Proofs.YtdddfmdcjjbegaaGreat.R43
open Go.RowKit Go.Proofs BigFrame
open RingW (It)
open First (Cf VC)
open Cal (ins)
open Egs (Cs Eg OkE OkS OkF wst psh zeroI)
set_option linter.unusedSimpArgs false
/-- One item, here and there. -/
def Ent (P : List (Nat × Nat × Nat)) (A : List Nat) (wb : Bool) (a : Nat × It) (e : Nat × Int) : Prop :=
 ∃ X : Nat, e = (if wb = true then a.1 else 0, (X : Int)) ∧ P[X]? = some (a.2.1, a.2.2.1, a.2.2.2.1) ∧ A[X]? = some a.2.2.2.2.1
def Mt (P : List (Nat × Nat × Nat)) (A : List Nat) (wb : Bool) : List (Nat × It) → List (Nat × Int) → Prop
 | [], [] => True
 | a :: l, e :: L => Ent P A wb a e ∧ Mt P A wb l L
 | [], _ :: _ => False
 | _ :: _, [] => False
theorem mt_iff {R : Rf} {cf : Cf} : ∀ {l : List (Nat × It)} {L : List (Nat × Int)}, Mat R cf l L ↔ Mt R.P R.A (wst cf) l L
 | [], [] => ⟨fun _ => trivial, fun _ => ⟨rfl, fun t r x h => by cases h⟩⟩
 | [], e :: L => ⟨fun h => by have := h.1; simp at this, fun h => h.elim⟩
 | a :: l, [] => ⟨fun h => by have := h.1; simp at this, fun h => h.elim⟩
 | a :: l, e :: L => by
   refine ⟨fun h => ?_, fun h => ?_⟩
   · obtain ⟨X, T, h1, h2, h3, h4⟩ := h.tail
     injection h1 with h1 h5
     subst h5
     exact ⟨⟨X, h1, h3, h4⟩, mt_iff.1 h2⟩
   · obtain ⟨⟨X, h1, h2, h3⟩, h4⟩ := h
     have h5 := mt_iff.2 h4
     refine ⟨by simp [h5.1], fun t r x ht => ?_⟩
     cases t with
     | zero =>
       cases ht
       exact ⟨X, by rw [h1]; rfl, h2, h3⟩
     | succ t => exact h5.2 t r x ht
section
variable {P : List (Nat × Nat × Nat)} {A : List Nat} {wb : Bool}
theorem Mt.len : ∀ {l : List (Nat × It)} {L : List (Nat × Int)}, Mt P A wb l L → L.length = l.length
 | [], [], _ => rfl
 | _ :: _, _ :: _, h => by simp [Mt.len h.2]
 | [], _ :: _, h => h.elim
 | _ :: _, [], h => h.elim
theorem Ent.grow {a : Nat × It} {e : Nat × Int} (h : Ent P A wb a e) (p : List (Nat × Nat × Nat)) (t : List Nat) : Ent (P ++ p) (A ++ t) wb a e := by
 obtain ⟨X, h1, h2, h3⟩ := h
 have l1 : X < P.length := by
  rcases Nat.lt_or_ge X P.length with h' | h'
  · exact h'
  · rw [List.getElem?_eq_none h'] at h2; cases h2
 have l2 : X < A.length := by
  rcases Nat.lt_or_ge X A.length with h' | h'
  · exact h'
  · rw [List.getElem?_eq_none h'] at h3; cases h3
 exact ⟨X, h1, by rw [List.getElem?_append_left l1]; exact h2, by rw [List.getElem?_append_left l2]; exact h3⟩
theorem Mt.grow (p : List (Nat × Nat × Nat)) (t : List Nat) : ∀ {l : List (Nat × It)} {L : List (Nat × Int)}, Mt P A wb l L → Mt (P ++ p) (A ++ t) wb l L
 | [], [], _ => trivial
 | _ :: _, _ :: _, h => ⟨h.1.grow p t, Mt.grow p t h.2⟩
 | [], _ :: _, h => h.elim
 | _ :: _, [], h => h.elim
theorem Mt.insw {r X : Nat} {x : It} (he : Ent P A true (r, x) (r, (X : Int))) : ∀ {l : List (Nat × It)} {L : List (Nat × Int)}, Mt P A true l L → Mt P A true (ins r x l) (insR (r, (X : Int)) L)
 | [], [], _ => ⟨he, trivial⟩
 | a :: l, e :: L, h => by
   obtain ⟨Y, h1, h2⟩ := h.1
   have e1 : e.1 = a.1 := by rw [h1]; rfl
   unfold ins insR
   rw [e1]
   by_cases hr : r < a.1
   · rw [if_pos hr, if_pos hr]; exact ⟨he, h⟩
   · rw [if_neg hr, if_neg hr]; exact ⟨h.1, Mt.insw he h.2⟩
 | [], _ :: _, h => h.elim
 | _ :: _, [], h => h.elim
theorem Mt.ins0 {r X : Nat} {x : It} (he : Ent P A false (r, x) (0, (X : Int))) : ∀ {l : List (Nat × It)} {L : List (Nat × Int)}, Mt P A false l L → Mt P A false (l ++ [(r, x)]) (insR (0, (X : Int)) L)
 | [], [], _ => ⟨he, trivial⟩
 | a :: l, e :: L, h => by
   obtain ⟨Y, h1, -⟩ := h.1
   have e1 : e.1 = 0 := by rw [h1]; rfl
   unfold insR
   rw [if_neg (by rw [e1]; exact Nat.lt_irrefl 0)]
   exact ⟨h.1, Mt.ins0 he h.2⟩
 | [], _ :: _, h => h.elim
 | _ :: _, [], h => h.elim
theorem Mt.last {a : Nat × It} : ∀ {l : List (Nat × It)} {L : List (Nat × Int)}, Mt P A wb (l ++ [a]) L → ∃ T e, L = T ++ [e] ∧ Mt P A wb l T ∧ Ent P A wb a e
 | [], [e], h => ⟨[], e, rfl, trivial, h.1⟩
 | b :: l, e :: L, h => by
   obtain ⟨T, f, h1, h2, h3⟩ := Mt.last (l := l) h.2
   exact ⟨e :: T, f, by rw [h1]; rfl, ⟨h.1, h2⟩, h3⟩
 | [], [], h => h.elim
 | [], _ :: _ :: _, h => h.2.elim
 | _ :: _, [], h => h.elim
theorem ent_new {p : Nat × Nat × Nat} {now inn r : Nat} (h : P.length = A.length) : Ent (P ++ [p]) (A ++ [now]) wb (r, (p.1, p.2.1, p.2.2, now, inn)) (if wb = true then r else 0, (P.length : Int)) :=
 ⟨P.length, rfl, by rw [List.getElem?_append_right (Nat.le_refl _), Nat.sub_self]; rfl, by rw [h, List.getElem?_append_right (Nat.le_refl _), Nat.sub_self]; rfl⟩
end
end Go.Proofs.YtdddfmdcjjbegaaGreat.R43
namespace Go.Proofs.YtdddfmdcjjbegaaGreat.R43
open Go.RowKit Go.Proofs BigFrame
open RingW (It)
open First (Cf VC)
open Cal (ins)
open Egs (Cs Eg OkE OkS OkF TRk TRc TP wst psh zeroI mayS pushS mayS_eq)
open Aifo (RefIn)
set_option maxHeartbeats 1000000
set_option maxRecDepth 1000000
set_option linter.unusedSimpArgs false
theorem set_same {α : Type} {q : List α} {i : Nat} {x : α} (h : q[i]? = some x) : q.set i x = q := by
 apply List.ext_getElem?
 intro j
 by_cases e : i = j
 · subst e
   rw [gset h, h]
 · rw [List.getElem?_set_ne e]
theorem gset2 {α : Type} {q : List α} {i : Nat} {x y : α} : (q.set i x).set i y = q.set i y := by
 rw [List.set_set]
section
variable {w w1 w2 w3 : World} {own : Nat → Prop} {m pace i b k : Nat} {cv pv : Value} {R : Rf} {E : Eg} {cf : Cf} {s s' s2 : Cs} {L L' : List (Nat × Int)} {rank now inn p0 p1 p2 : Nat}
/-- A packet more. -/
theorem RfP.setP {v v' : Value} {n : Nat} {p : Nat × Nat × Nat} (h : RfP w own m cv pv pace R) (ev : R.pv = v) (en : R.P.length = n) (ho : w2.ownsRow 0 TP 3 v' (n + 1) (pks R.P ++ pks [p])) (hu : Upd (fun k => v.ownBlock = some k) w1 w2) (hn : OwnOrNew w1 v v') (hx : Upd Nowhere w w1) :
 ∃ own', RfP (w2.setCell ⟨m, 4, none⟩ v') own' m cv pv pace { R with pv := v', P := R.P ++ [p] } ∧ Fol w own (w2.setCell ⟨m, 4, none⟩ v') own' := by
 subst ev en
 obtain ⟨o, hC, _, hK⟩ := Sep.foc (rowW TP 3 R.pv R.P.length (pks R.P)) (rowW TU 1 R.av R.A.length (n64 R.A) :: sts R.q) [blkC m (RCl cv pv pace R) TEg, rowW TPs 1 R.sv R.q.length (ptr2 R.q)] h
 obtain ⟨h1, h2⟩ := rowW_push hC hx ho hu hn
 obtain ⟨o2, h3, f3⟩ := hK w2 _ (rowW TP 3 v' (R.P.length + 1) (pks R.P ++ pks [p])) h1 h2
 obtain ⟨oa, ob, ⟨hBk, _⟩, _⟩ := id h3
 obtain ⟨o4, h5, f5⟩ := Egs.sep_blk (C' := RCl cv pv pace { R with pv := v', P := R.P ++ [p] }) h3 (Upd.refl _ _) ((Upd.refl _ _).setOne 4 v') (by simpa using hBk.set 4 v')
 refine ⟨o4, ?_, f3.trans f5⟩
 show Sep _ (_ :: ([rowW TPs 1 R.sv R.q.length (ptr2 R.q), rowW TP 3 v' (R.P ++ [p]).length (pks (R.P ++ [p])), rowW TU 1 R.av R.A.length (n64 R.A)] ++ sts R.q)) o4
 rw [List.length_append, show pks (R.P ++ [p]) = pks R.P ++ pks [p] by unfold pks; rw [List.flatMap_append]]
 exact h5
/-- A time more. -/
theorem RfP.setA {v v' : Value} {n t : Nat} (h : RfP w own m cv pv pace R) (ev : R.av = v) (en : R.A.length = n) (ho : w2.ownsRow 0 TU 1 v' (n + 1) (n64 R.A ++ n64 [t])) (hu : Upd (fun k => v.ownBlock = some k) w1 w2) (hn : OwnOrNew w1 v v') (hx : Upd Nowhere w w1) :
 ∃ own', RfP (w2.setCell ⟨m, 5, none⟩ v') own' m cv pv pace { R with av := v', A := R.A ++ [t] } ∧ Fol w own (w2.setCell ⟨m, 5, none⟩ v') own' := by
 subst ev en
 obtain ⟨o, hC, _, hK⟩ := Sep.foc (rowW TU 1 R.av R.A.length (n64 R.A)) (sts R.q) [blkC m (RCl cv pv pace R) TEg, rowW TPs 1 R.sv R.q.length (ptr2 R.q), rowW TP 3 R.pv R.P.length (pks R.P)] h
 obtain ⟨h1, h2⟩ := rowW_push hC hx ho hu hn
 obtain ⟨o2, h3, f3⟩ := hK w2 _ (rowW TU 1 v' (R.A.length + 1) (n64 R.A ++ n64 [t])) h1 h2
 obtain ⟨oa, ob, ⟨hBk, _⟩, _⟩ := id h3
 obtain ⟨o4, h5, f5⟩ := Egs.sep_blk (C' := RCl cv pv pace { R with av := v', A := R.A ++ [t] }) h3 (Upd.refl _ _) ((Upd.refl _ _).setOne 5 v') (by simpa using hBk.set 5 v')
 refine ⟨o4, ?_, f3.trans f5⟩
 show Sep _ (_ :: ([rowW TPs 1 R.sv R.q.length (ptr2 R.q), rowW TP 3 R.pv R.P.length (pks R.P), rowW TU 1 v' (R.A ++ [t]).length (n64 (R.A ++ [t]))] ++ sts R.q)) o4
 rw [List.length_append, show n64 (R.A ++ [t]) = n64 R.A ++ n64 [t] by unfold n64; rw [List.map_append]]
 exact h5
/-- The rows of packets and of times. -/
theorem RfP.rows (h : RfP w own m cv pv pace R) : w.ownsRow 0 TP 3 R.pv R.P.length (pks R.P) ∧ w.ownsRow 0 TU 1 R.av R.A.length (n64 R.A) := by
 obtain ⟨o1, o2, ⟨hB, ho1⟩, ⟨o3, o4, hr1, ⟨o5, o6, hr2, ⟨o7, o8, hr3, _⟩, _⟩, _⟩, _, h4⟩ := h
 exact ⟨hr2.1, hr3.1⟩
theorem RfP.same (h : RfP w own m cv pv pace R) (hq : R.q[i]? = some (b, cf, s, L)) : RfP w own m cv pv pace { R with q := R.q.set i (b, cf, s, L) } := by
 rw [set_same hq]; exact h
/-- Another class's row of the same. -/
theorem Cor.same (h : Cor E R) (hx : E.q[i]? = some (k, cf, s)) : Cor { E with q := E.q.set i (k, cf, s) } R := by
 rw [set_same hx]; exact h
theorem Cor.came (h : Cor E R) {p : Nat × Nat × Nat} {pv' av' : Value} (hx : E.q[i]? = some (k, cf, s)) (hq : R.q[i]? = some (b, cf, s, L)) (hm : Mt (R.P ++ [p]) (R.A ++ [E.now]) (wst cf) s'.l L') :
 Cor { E with q := E.q.set i (k, cf, s') } { R with q := R.q.set i (b, cf, s', L'), pv := pv', av := av', P := R.P ++ [p], A := R.A ++ [E.now] } := by
 have h1 : Cor E { R with pv := pv', av := av', P := R.P ++ [p], A := R.A ++ [E.now] } := by
  refine ⟨h.now, h.busy, h.len, fun j k' cf' s2 hj => ?_, by show (R.P ++ [p]).length = (R.A ++ [E.now]).length; rw [List.length_append, List.length_append, h.pa]; rfl⟩
  obtain ⟨b', L2, h1, h2⟩ := h.mat hj
  exact ⟨b', L2, h1, mt_iff.2 ((mt_iff.1 h2).grow [p] [E.now])⟩
 exact h1.set hx hq (mt_iff.2 hm)
/-- Who may come, comes: the end of it all. -/
theorem push_any_ (h : mayS cf s rank = (0, s2)) (h4 : cf.policy ≠ 4) : pushS cf s now rank (p0, p1, p2) = (0, { s2 with l := s.l ++ [(rank, (p0, p1, p2, now, s.inn))], bys := s.bys + p2, inn := s.inn + 1, drp := s.drp }) := by
 have hw : wst cf = false := decide_eq_false h4
 unfold pushS
 rw [h, if_pos rfl, hw]
 simp [psh]
theorem may4 (h4 : cf.policy = 4) : mayS cf s rank = (0, s) := by unfold mayS; rw [if_pos h4]
theorem push_room (h4 : cf.policy = 4) (hl : s.l.length < cf.room.toNat) : pushS cf s now rank (p0, p1, p2) = (0, { s with l := ins rank (p0, p1, p2, now, s.inn) s.l, bys := s.bys + p2, inn := s.inn + 1, drp := s.drp }) := by
 have hw : wst cf = true := decide_eq_true h4
 unfold pushS
 rw [may4 h4, if_pos rfl, hw]
 simp [psh, hl]
theorem push_self {t : List (Nat × It)} {r : Nat} {y : It} (h4 : cf.policy = 4) (hl : ¬ s.l.length < cf.room.toNat) (ht : s.l = t ++ [(r, y)]) (hr : r ≤ rank) : pushS cf s now rank (p0, p1, p2) = (21, s) := by
 have hw : wst cf = true := decide_eq_true h4
 unfold pushS
 rw [may4 h4, if_pos rfl, hw]
 have e : psh true cf.room.toNat s.l rank (p0, p1, p2, now, s.inn) = (s.l, (p0, p1, p2, now, s.inn), true, true) := by
  unfold psh
  rw [if_pos rfl, if_neg hl, ht, List.getLast?_concat]
  dsimp only
  rw [if_pos hr]
 dsimp only
 rw [e]
 simp
theorem push_out {t : List (Nat × It)} {r : Nat} {y : It} (h4 : cf.policy = 4) (hl : ¬ s.l.length < cf.room.toNat) (ht : s.l = t ++ [(r, y)]) (hr : ¬ r ≤ rank) (hy : y.2.2.2.2 < s.inn) :
 pushS cf s now rank (p0, p1, p2) = (0, { s with l := ins rank (p0, p1, p2, now, s.inn) t, bys := s.bys - y.2.2.1 + p2, inn := s.inn + 1, drp := s.drp + 1 }) := by
 have hw : wst cf = true := decide_eq_true h4
 unfold pushS
 rw [may4 h4, if_pos rfl, hw]
 have e : psh true cf.room.toNat s.l rank (p0, p1, p2, now, s.inn) = (ins rank (p0, p1, p2, now, s.inn) t, y, true, false) := by
  unfold psh
  rw [if_pos rfl, if_neg hl, ht, List.getLast?_concat, List.dropLast_concat]
  dsimp only
  rw [if_neg hr]
  have : decide (y.2.2.2.2 = s.inn) = false := decide_eq_false (by omega)
  rw [this]
 dsimp only
 rw [e]
 simp
theorem push_no {c : Nat} (h : mayS cf s rank = (c, s2)) (hc : c ≠ 0) : pushS cf s now rank (p0, p1, p2) = (c, s2) := by
 unfold pushS
 rw [h, if_neg hc]
theorem may20 (h3 : cf.policy < 3) (hl : cf.room.toNat ≤ s.l.length) : mayS cf s rank = (20, s) := by
 unfold mayS
 rw [if_neg (by omega), if_neg (by omega), if_pos hl]
theorem may1 (h1 : cf.policy = 1) (hl : ¬ cf.room.toNat ≤ s.l.length) {M C : Nat} {B : Bool} (hr : Red.rs cf.el cf.eh cf.em cf.es s.mean s.cnt s.bys = ((M, C), B)) : mayS cf s rank = (if B = true then 21 else 0, { s with mean := M, cnt := C }) := by
 unfold mayS
 rw [if_neg (by omega), if_neg (by omega), if_neg hl, if_pos h1, hr]
theorem may3 (h3 : cf.policy = 3) : mayS cf s rank = (if Aifo.mayB cf.room.toNat s.gw cf.num cf.den s.win rank = true then 0 else 21, { s with gw := if Aifo.mayB cf.room.toNat s.gw cf.num cf.den s.win rank = true then s.gw + 1 else s.gw, win := Aifo.slid cf.window.toNat s.win ++ [(rank : Int)] }) := by
 unfold mayS
 rw [if_neg (by omega), if_pos h3]
theorem may0 (h1 : cf.policy ≠ 1) (h3 : cf.policy ≠ 3) (hl : cf.policy ≠ 4 → ¬ cf.room.toNat ≤ s.l.length) : mayS cf s rank = (0, s) := by
 unfold mayS
 by_cases h4 : cf.policy = 4
 · rw [if_pos h4]
 · rw [if_neg h4, if_neg h3, if_neg (hl h4), if_neg h1]
theorem mayS_l {c : Nat} (h : mayS cf s rank = (c, s2)) : s2.l = s.l ∧ s2.inn = s.inn ∧ s2.bys = s.bys ∧ s2.drp = s.drp := by
 obtain ⟨a, b, c, d, e⟩ := mayS_eq cf s rank
 rw [h] at e
 dsimp only at e
 rw [e]
 exact ⟨rfl, rfl, rfl, rfl⟩
theorem StP.row {o : Nat → Prop} (h : StP w o b cf s L) : ∃ lv gb, Blk w b (SC cf s lv gb) TSt ∧ PRow Ref09.TI 0 w lv L := h.blk.2
/-- All of a state's cells, in a class. -/
theorem RfP.cls (h : RfP w own m cv pv pace R) (hq : R.q[i]? = some (b, cf, s, L)) : ∃ lv gb, Blk w b (SC cf s lv gb) TSt ∧ PRow Ref09.TI 0 w lv L ∧ Blk w m (RCl cv pv pace R) TEg ∧ ¬ b = m ∧ own b ∧ own m := by
 obtain ⟨o, hSt, hno, hso, hom, _⟩ := h.st hq
 obtain ⟨hob, lv, gb, hB, hPR⟩ := hSt.blk
 obtain ⟨_, hM, _⟩ := h.blk
 exact ⟨lv, gb, hB, hPR, hM, fun e => hno (by rw [← e]; exact hob), hso b hob, hom⟩
theorem RfP.old (h : RfP w own m cv pv pace R) (hu : Upd Nowhere w w1) : RfP w1 own m cv pv pace R := Sep.kp hu h (fun _ _ h => h)
theorem RfP.setB2 (h : RfP w own m cv pv pace { R with q := R.q.set i (b, cf, s2, L) }) (hq0 : R.q[i]? = some (b, cf, s, L')) (h0 : Upd Nowhere w w1) (hu : Upd (fun q => q = b) w1 w2) (e2 : s'.gw = s2.gw) (e3 : s'.win = s2.win)
 (hB : ∀ lv gb, Blk w b (SC cf s2 lv gb) TSt → Blk w2 b (SC cf s' lv gb) TSt) : ∃ own', RfP w2 own' m cv pv pace { R with q := R.q.set i (b, cf, s', L) } ∧ Fol w own w2 own' := by
 have h1 := h.setB (i := i) (gset hq0) h0 hu e2 e3 hB
 rw [gset2] at h1
 exact h1
theorem RfP.gate2 (h : RfP w own m cv pv pace { R with q := R.q.set i (b, cf, s2, L) }) (hq0 : R.q[i]? = some (b, cf, s, L')) (hp : cf.policy = 3) :
 ∃ lv gb wv, Blk w b (SC cf s2 lv gb) TSt ∧ RefIn w gb cf.room.toNat cf.window.toNat s2.gw cf.num cf.den s2.win wv ∧
  ∀ (w' : World) (s' : Cs) (wv' : Value), RefIn w' gb cf.room.toNat cf.window.toNat s'.gw cf.num cf.den s'.win wv' → Upd (fun k => k = gb ∨ wv.ownBlock = some k) w w' → (∀ k, wv'.ownBlock = some k → wv.ownBlock = some k ∨ w.heap.size ≤ k) → (∀ lv gb, SC cf s' lv gb = SC cf s2 lv gb) → ∃ own', RfP w' own' m cv pv pace { R with q := R.q.set i (b, cf, s', L) } ∧ Fol w own w' own' := by
 obtain ⟨o, hSt, _, _, _, hK⟩ := h.st (gset hq0)
 obtain ⟨lv, gb, wv, h1, h2, h3⟩ := hSt.gate hp
 refine ⟨lv, gb, wv, h1, h2, fun w' s' wv' a1 a2 a3 a4 => ?_⟩
 obtain ⟨o', b1, b2⟩ := h3 w' s' wv' a1 a2 a3 a4
 have := hK w' o' s' L b1 b2
 dsimp only at this
 rw [gset2] at this
 exact this
theorem StP.setLB {L' : List (Nat × Int)} {v' : Value} (h : StP w own b cf s L) (h0 : Upd Nowhere w w1) (hM : Ref09.Made w1 w2 v' L') (hu : Upd (fun q => q = b) w2 w3) (e2 : s'.gw = s.gw) (e3 : s'.win = s.win) (hB : ∀ lv gb, Blk w2 b (SC cf s lv gb) TSt → Blk w3 b (SC cf s' v' gb) TSt) :
 ∃ own', StP w3 own' b cf s' L' ∧ Fol w own w3 own' := by
 obtain ⟨lv, gb, hS⟩ := h
 obtain ⟨o, _, _, hK⟩ := Sep.foc (itR lv L) [gateR cf gb s.gw s.win] [blkC b (SC cf s lv gb) TSt] hS
 have hsz : w.heap.size ≤ w1.heap.size := h0.size
 obtain ⟨o2, h2, f2⟩ := hK w2 (fun k => v'.ownBlock = some k) (itR v' L') ⟨ownsRow_base hM.1 (Nat.zero_le _), fun _ => Iff.rfl⟩ ⟨fun k hk => .inr (Nat.le_trans hsz (hM.1.lt k hk).1), (h0.trans hM.2 (fun _ _ h => h)).any _⟩
 obtain ⟨oa, ob, ⟨hBk, _⟩, _⟩ := id h2
 obtain ⟨o3, h3, f3⟩ := Egs.sep_blk (C' := SC cf s' v' gb) h2 (Upd.refl _ _) hu (hB lv gb hBk)
 exact ⟨o3, ⟨v', gb, by rw [e2, e3]; exact h3⟩, f2.trans f3⟩
theorem RfP.setLB {L2 : List (Nat × Int)} {v' : Value} (h : RfP w own m cv pv pace { R with q := R.q.set i (b, cf, s2, L) }) (hq0 : R.q[i]? = some (b, cf, s, L')) (h0 : Upd Nowhere w w1) (hM : Ref09.Made w1 w2 v' L2) (hu : Upd (fun q => q = b) w2 w3) (e2 : s'.gw = s2.gw) (e3 : s'.win = s2.win) (hB : ∀ lv gb, Blk w2 b (SC cf s2 lv gb) TSt → Blk w3 b (SC cf s' v' gb) TSt) :
 ∃ own', RfP w3 own' m cv pv pace { R with q := R.q.set i (b, cf, s', L2) } ∧ Fol w own w3 own' := by
 obtain ⟨o, hSt, _, _, _, hK⟩ := h.st (gset hq0)
 obtain ⟨o', h1, h2⟩ := hSt.setLB h0 hM hu e2 e3 hB
 have h3 := hK _ o' s' L2 h1 h2
 dsimp only at h3
 rw [gset2] at h3
 exact h3
theorem last_of {α : Type} : ∀ {l : List α}, 0 < l.length → ∃ t a, l = t ++ [a]
 | [], h => absurd h (Nat.lt_irrefl 0)
 | [a], _ => ⟨[], a, rfl⟩
 | a :: c :: l, _ => by
   obtain ⟨t, x, h⟩ := last_of (l := c :: l) (Nat.zero_lt_succ _)
   exact ⟨a :: t, x, by rw [h]; rfl⟩
theorem ks3 {g j : Nat} {v v0 v1 v2 : Value} {a0 a1 a2 : Addr} (h : w.cell? a0 = some v0 ∧ w.cell? a1 = some v1 ∧ w.cell? a2 = some v2) (n0 : a0.block ≠ g) (n1 : a1.block ≠ g) (n2 : a2.block ≠ g) :
 (w.setCell ⟨g, j, none⟩ v).cell? a0 = some v0 ∧ (w.setCell ⟨g, j, none⟩ v).cell? a1 = some v1 ∧ (w.setCell ⟨g, j, none⟩ v).cell? a2 = some v2 := by
 have k : ∀ {x : Addr} {u : Value}, x.block ≠ g → w.cell? x = some u → (w.setCell ⟨g, j, none⟩ v).cell? x = some u := fun {x u} hx hc => by
  rw [World.cell?_of_block (w := w) (Below.heap_setCell _ _ _ _ hx)]; exact hc
 exact ⟨k n0 h.1, k n1 h.2.1, k n2 h.2.2⟩
theorem ka3 {u : World} {v0 v1 v2 : Value} {a0 a1 a2 : Addr} (h : w.cell? a0 = some v0 ∧ w.cell? a1 = some v1 ∧ w.cell? a2 = some v2) (hu : Upd Nowhere w u) : u.cell? a0 = some v0 ∧ u.cell? a1 = some v1 ∧ u.cell? a2 = some v2 := ⟨cell_old hu h.1, cell_old hu h.2.1, cell_old hu h.2.2⟩
/-- Whose the rows are. -/
theorem RfP.offs (h : RfP w own m cv pv pace R) : R.pv.ownBlock ≠ some m ∧ R.av.ownBlock ≠ some m ∧ (∀ k, R.pv.ownBlock = some k → own k) ∧ (∀ k, R.av.ownBlock = some k → own k) := by
 obtain ⟨o1, o2, ⟨hB, ho1⟩, ⟨o3, o4, hr1, ⟨o5, o6, hr2, ⟨o7, o8, hr3, _, _, m7⟩, _, m6⟩, _, m4⟩, d1, m1⟩ := h
 have a1 : ∀ k, R.pv.ownBlock = some k → o2 k := fun k hk => (m4 k).2 (.inr ((m6 k).2 (.inl ((hr2.2 k).2 hk))))
 have a2 : ∀ k, R.av.ownBlock = some k → o2 k := fun k hk => (m4 k).2 (.inr ((m6 k).2 (.inr ((m7 k).2 (.inl ((hr3.2 k).2 hk))))))
 exact ⟨fun e => d1 m ((ho1 m).2 rfl) (a1 m e), fun e => d1 m ((ho1 m).2 rfl) (a2 m e), fun k hk => (m1 k).2 (.inr (a1 k hk)), fun k hk => (m1 k).2 (.inr (a2 k hk))⟩
theorem coff {S : Nat → Prop} {j : Nat} {v : Value} (hx : Upd Nowhere w w1) (hu : Upd S w1 w2) (hs : ¬ S b) (h : w.cell? ⟨b, j, none⟩ = some v) (hf : w.frozen? ⟨b, j, none⟩ = false) : w2.cell? ⟨b, j, none⟩ = some v ∧ w2.frozen? ⟨b, j, none⟩ = false := by
 have hlt : b < w.heap.size := cell_lt h
 have hlx := Nat.lt_of_lt_of_le hlt hx.size
 exact ⟨by rw [hu.cell j hlx hs, hx.cell j hlt id]; exact h, by rw [hu.frozen j hlx hs, hx.frozen j hlt id]; exact hf⟩
theorem infoP : (Tryz.prog.info? TP).map (fun i => (i.zero, i.size, i.bytes)) = some (some (.agg #[.int .u32 0, .int .u32 0, .int .u64 0]), 3, 16) := by kernel_rfl
theorem infoU : (Tryz.prog.info? TU).map (fun i => (i.zero, i.size, i.bytes)) = some (some (.int .u64 0), 1, 8) := by kernel_rfl
end
end Go.Proofs.YtdddfmdcjjbegaaGreat.R43

