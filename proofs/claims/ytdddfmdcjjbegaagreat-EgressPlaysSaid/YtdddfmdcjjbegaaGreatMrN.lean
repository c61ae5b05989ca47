/- R43N0, R43N1, one behind the other. -/
import Derived.Test.YtdddfmdcjjbegaaGreatMrG
import Derived.Test.YtdddfmdcjjbegaaGreatMeP2
import Derived.Deep.LoopGhost
namespace Go.Proofs.YtdddfmdcjjbegaaGreat.R43
open Go.RowKit Go.Proofs BigFrame
open RingW (It)
open First (Cf VC)
open Egs (Cs Eg OkE OkS OkF cri crs crh TRk TRc TP tks goesB opens ClsAt PlnAt dropS m_box mk_off mk_set)
open Aifo (RefIn)
set_option maxHeartbeats 40000000
set_option maxRecDepth 1000000
set_option linter.unusedSimpArgs false
open Egs (wst tkn leaveS goesB)
theorem StP.setL {w w1 w2 : World} {own : Nat → Prop} {b : Nat} {cf : Cf} {s s' : Cs} {L L' : List (Nat × Int)} {v' : Value} (h : StP w own b cf s L) (h0 : Upd Nowhere w w1) (hM : Ref09.Made w1 w2 v' L') (e1 : ∀ lv gb, SC cf s' lv gb = SC cf s lv gb) (e2 : s'.gw = s.gw) (e3 : s'.win = s.win) :
 ∃ own', StP (w2.setCell ⟨b, 0, none⟩ v') own' b cf s' L' ∧ Fol w own (w2.setCell ⟨b, 0, none⟩ v') own' := by
 obtain ⟨lv, gb, hS⟩ := h
 obtain ⟨o, _, _, hK⟩ := Sep.foc (itR lv L) [gateR cf gb s.gw s.win] [blkC b (SC cf s lv gb) TSt] hS
 have hsz : w.heap.size ≤ w1.heap.size := h0.size
 obtain ⟨o2, h2, f2⟩ := hK w2 (fun k => v'.ownBlock = some k) (itR v' L') ⟨ownsRow_base hM.1 (Nat.zero_le _), fun _ => Iff.rfl⟩ ⟨fun k hk => .inr (Nat.le_trans hsz (hM.1.lt k hk).1), (h0.trans hM.2 (fun _ _ h => h)).any _⟩
 obtain ⟨oa, ob, ⟨hBk, _⟩, _⟩ := id h2
 obtain ⟨o3, h3, f3⟩ := Egs.sep_blk (C' := SC cf s v' gb) h2 (Upd.refl _ _) ((Upd.refl _ _).setOne 0 v') (by simpa using hBk.set 0 v')
 exact ⟨o3, ⟨v', gb, by rw [e1, e2, e3]; exact h3⟩, f2.trans f3⟩
theorem StP.gate {w : World} {own : Nat → Prop} {b : Nat} {cf : Cf} {s : Cs} {L : List (Nat × Int)} (h : StP w own b cf s L) (hp : cf.policy = 3) :
 ∃ lv gb wv, Blk w b (SC cf s lv gb) TSt ∧ RefIn w gb cf.room.toNat cf.window.toNat s.gw cf.num cf.den s.win wv ∧
  ∀ (w' : World) (s' : Cs) (wv' : Value), RefIn w' gb cf.room.toNat cf.window.toNat s'.gw cf.num cf.den s'.win wv' → Upd (fun k => k = gb ∨ wv.ownBlock = some k) w w' → (∀ k, wv'.ownBlock = some k → wv.ownBlock = some k ∨ w.heap.size ≤ k) → (∀ lv gb, SC cf s' lv gb = SC cf s lv gb) → ∃ own', StP w' own' b cf s' L ∧ Fol w own w' own' := by
 obtain ⟨lv, gb, hS⟩ := h
 obtain ⟨oa, ob, ⟨hBk, _⟩, _⟩ := id hS
 obtain ⟨o, hG, _, hK⟩ := Sep.foc (gateR cf gb s.gw s.win) [] [blkC b (SC cf s lv gb) TSt, itR lv L] hS
 have hG' : GateR cf w gb s.gw s.win o := hG
 unfold GateR at hG'
 rw [if_pos hp] at hG'
 obtain ⟨wv, h1, h2⟩ := hG'
 refine ⟨lv, gb, wv, hBk, h1, fun w' s' wv' h3 hu hn e1 => ?_⟩
 obtain ⟨own', h4, h5⟩ := hK w' (fun k => k = gb ∨ wv'.ownBlock = some k) (gateR cf gb s'.gw s'.win) (by show GateR cf w' gb s'.gw s'.win _; unfold GateR; rw [if_pos hp]; exact ⟨wv', h3, fun _ => Iff.rfl⟩)
  ⟨fun k hk => by
   rcases hk with rfl | hk
   · exact .inl ((h2 _).2 (.inl rfl))
   · exact (hn k hk).imp (fun h => (h2 k).2 (.inr h)) id, hu.mono fun k _ hk => (h2 k).2 hk⟩
 exact ⟨own', ⟨lv, gb, by rw [e1]; exact h4⟩, h5⟩
theorem StP.setG {w : World} {own : Nat → Prop} {b : Nat} {cf : Cf} {s : Cs} {L : List (Nat × Int)} (h : StP w own b cf s L) (hp : cf.policy = 3) :
 ∃ lv gb wv, Blk w b (SC cf s lv gb) TSt ∧ Blk w gb #[.int .i64 (cf.room.toNat : Nat), .int .i64 (cf.window.toNat : Nat), .int .u64 (cf.num : Nat), .int .u64 (cf.den : Nat), .int .i64 (s.gw : Nat), wv] Aifo.TM ∧
  ∀ (s' : Cs), s'.gw ≤ s.gw → s'.win = s.win → (∀ lv gb, SC cf s' lv gb = SC cf s lv gb) → ∃ own', StP (w.setCell ⟨gb, 4, none⟩ (.int .i64 (s'.gw : Nat))) own' b cf s' L ∧ Fol w own (w.setCell ⟨gb, 4, none⟩ (.int .i64 (s'.gw : Nat))) own' := by
 obtain ⟨lv, gb, wv, hB, hR, hK⟩ := h.gate hp
 refine ⟨lv, gb, wv, hB, hR.blk, fun s' h1 h2 h3 => ?_⟩
 exact hK _ s' wv (by rw [h2]; exact hR.setW s'.gw (Nat.le_trans h1 hR.r3)) (((Upd.refl _ _).setOne 4 _).mono fun _ _ h => .inl h) (fun k hk => .inl hk) h3
section
variable {w w1 w' w2 : World} {own : Nat → Prop} {m pace i b : Nat} {cv pv : Value} {R : Rf} {cf : Cf} {s s' : Cs} {L : List (Nat × Int)}
theorem RfP.setB (h : RfP w own m cv pv pace R) (hq : R.q[i]? = some (b, cf, s, L)) (h0 : Upd Nowhere w w1) (hu : Upd (fun q => q = b) w1 w') (e2 : s'.gw = s.gw) (e3 : s'.win = s.win)
 (hB : ∀ lv gb, Blk w b (SC cf s lv gb) TSt → Blk w' b (SC cf s' lv gb) TSt) : ∃ own', RfP w' own' m cv pv pace { R with q := R.q.set i (b, cf, s', L) } ∧ Fol w own w' own' := by
 obtain ⟨o, hSt, _, _, _, hK⟩ := h.st hq
 obtain ⟨o', h1, h2⟩ := st_blk hSt h0 hu e2 e3 hB
 exact hK _ o' s' L h1 h2
theorem RfP.setL {L' : List (Nat × Int)} {v' : Value} (h : RfP w own m cv pv pace R) (hq : R.q[i]? = some (b, cf, s, L)) (h0 : Upd Nowhere w w1) (hM : Ref09.Made w1 w2 v' L') (e1 : ∀ lv gb, SC cf s' lv gb = SC cf s lv gb) (e2 : s'.gw = s.gw) (e3 : s'.win = s.win) :
 ∃ own', RfP (w2.setCell ⟨b, 0, none⟩ v') own' m cv pv pace { R with q := R.q.set i (b, cf, s', L') } ∧ Fol w own (w2.setCell ⟨b, 0, none⟩ v') own' := by
 obtain ⟨o, hSt, _, _, _, hK⟩ := h.st hq
 obtain ⟨o', h1, h2⟩ := hSt.setL h0 hM e1 e2 e3
 exact hK _ o' s' L' h1 h2
end
theorem gset {α : Type} {q : List α} {i : Nat} {x y : α} (h : q[i]? = some x) : (q.set i y)[i]? = some y := by
 have hlt : i < q.length := by
  rcases Nat.lt_or_ge i q.length with h' | h'
  · exact h'
  · rw [List.getElem?_eq_none h'] at h; cases h
 rw [List.getElem?_set, if_pos rfl, if_pos hlt]
/-- A class's items, here and there. -/
def Mat (R : Rf) (cf : Cf) (l : List (Nat × It)) (L : List (Nat × Int)) : Prop := L.length = l.length ∧
 ∀ (t : Nat) (r : Nat) (x : It), l[t]? = some (r, x) → ∃ X : Nat, L[t]? = some (if wst cf = true then r else 0, (X : Int)) ∧ R.P[X]? = some (x.1, x.2.1, x.2.2.1) ∧ R.A[X]? = some x.2.2.2.1
theorem Cor.mat {E : Eg} {R : Rf} (h : Cor E R) {i k : Nat} {cf : Cf} {s : Cs} (hx : E.q[i]? = some (k, cf, s)) : ∃ b L, R.q[i]? = some (b, cf, s, L) ∧ Mat R cf s.l L := h.q i k cf s hx
theorem Cor.set {E : Eg} {R : Rf} (h : Cor E R) {i k b : Nat} {cf : Cf} {s s' : Cs} {L L' : List (Nat × Int)} (hx : E.q[i]? = some (k, cf, s)) (hq : R.q[i]? = some (b, cf, s, L)) (hm : Mat R cf s'.l L') :
 Cor { E with q := E.q.set i (k, cf, s') } { R with q := R.q.set i (b, cf, s', L') } := by
 refine ⟨h.now, h.busy, by show (R.q.set _ _).length = (E.q.set _ _).length; rw [List.length_set, List.length_set]; exact h.len, fun j k' cf' s2 hj => ?_, h.pa⟩
 show ∃ b' L2, (R.q.set i (b, cf, s', L'))[j]? = some (b', cf', s2, L2) ∧ Mat R cf' s2.l L2
 have hj' : (E.q.set i (k, cf, s'))[j]? = some (k', cf', s2) := hj
 by_cases e : i = j
 · subst e
   rw [gset hx] at hj'
   cases hj'
   exact ⟨b, L', gset hq, hm⟩
 · rw [List.getElem?_set_ne e] at hj'
   obtain ⟨b', L2, h1, h2⟩ := h.mat hj'
   exact ⟨b', L2, by rw [List.getElem?_set_ne e]; exact h1, h2⟩
theorem Mat.tail {R : Rf} {cf : Cf} {a : Nat × It} {l : List (Nat × It)} {L : List (Nat × Int)} (h : Mat R cf (a :: l) L) : ∃ X : Nat, ∃ T, L = (if wst cf = true then a.1 else 0, (X : Int)) :: T ∧ Mat R cf l T ∧ R.P[X]? = some (a.2.1, a.2.2.1, a.2.2.2.1) ∧ R.A[X]? = some a.2.2.2.2.1 := by
 obtain ⟨X, h1, h2, h3⟩ := h.2 0 a.1 a.2 rfl
 cases L with
 | nil => cases h1
 | cons y T =>
   cases h1
   refine ⟨X, T, rfl, ⟨by simpa using h.1, fun t r x hx => ?_⟩, h2, h3⟩
   obtain ⟨Y, h4, h5⟩ := h.2 (t + 1) r x hx
   exact ⟨Y, h4, h5⟩
end Go.Proofs.YtdddfmdcjjbegaaGreat.R43
namespace Go.Proofs.YtdddfmdcjjbegaaGreat.R43
open Go.RowKit Go.Proofs BigFrame
open RingW (It)
open First (Cf VC)
open Egs (Cs Eg OkE OkS OkF cri crs crh TRk TRc TP tks goesB opens ClsAt PlnAt dropS m_box mk_off mk_set)
open Aifo (RefIn)
set_option maxHeartbeats 40000000
set_option maxRecDepth 1000000
set_option linter.unusedSimpArgs false
open Egs (wst tkn leaveS goesB runC runQ nextE waitsQ zP set_parts drop_at waitsQ_app cfs cfs_at bsy VP)
def sm (q : List (Nat × Cf × Cs)) : Nat := (q.map fun x => x.2.2.l.length).sum
theorem sm_app (a : List (Nat × Cf × Cs)) (x : Nat × Cf × Cs) : sm (a ++ [x]) = sm a + x.2.2.l.length := by unfold sm; simp
theorem sm_waits : ∀ (q : List (Nat × Cf × Cs)), waitsQ q = decide (0 < sm q)
 | [] => rfl
 | x :: q => by
   have h := sm_waits q
   unfold waitsQ at h ⊢
   unfold sm at h ⊢
   rw [List.any_cons, h, List.map_cons, List.sum_cons]
   cases hl : x.2.2.l with
   | nil => simp
   | cons a t => simp; omega
theorem sm_le {E : Eg} {c : Nat} (h : OkE E c) (i : Nat) : sm (E.q.take i) ≤ 32768 := by
 have h1 : ∀ (l : List (Nat × Cf × Cs)), (∀ x ∈ l, x.2.2.l.length ≤ 4096) → sm l ≤ l.length * 4096 := by
  intro l
  induction l with
  | nil => intro _; exact Nat.le_refl _
  | cons a l ih =>
    intro h
    have h1 := h a (List.mem_cons_self ..)
    have h2 := ih (fun x hx => h x (List.mem_cons_of_mem _ hx))
    unfold sm at h2 ⊢
    rw [List.map_cons, List.sum_cons, List.length_cons]
    omega
 have h2 := h1 (E.q.take i) (fun x hx => by
  obtain ⟨hf, hs⟩ := h.q x (List.mem_of_mem_take hx)
  have := hs.len
  have := hf.r2
  omega)
 have h3 := h.n2
 have h4 : (E.q.take i).length ≤ 8 := by rw [List.length_take]; omega
 omega
structure Np (w wr : World) (own own' : Nat → Prop) (m RB : Nat) (cv pv : Value) (E : Eg) (R : Rf) (c i : Nat) (cs : List Cf) (EQ : List (Nat × Cf × Cs)) (Q : List (Nat × Cf × Cs × List (Nat × Int))) (wts : Nat) : Prop where
 rf : RfP wr own' m cv pv E.pace { R with q := Q }
 fo : Fol w own wr own'
 rb : Blk wr RB zP TP
 no : ¬ own' RB
 sz : w.heap.size ≤ RB
 co : Cor { E with q := EQ } { R with q := Q }
 ok : OkE { E with q := EQ } c
 cl : cfs { E with q := EQ } = cs
 n : EQ.length = E.q.length
 ru : runQ E.pl E.pace E.now 0 E.q = ((runQ E.pl E.pace E.now i (EQ.drop i)).1, EQ.take i ++ (runQ E.pl E.pace E.now i (EQ.drop i)).2)
 wy : wts = sm (EQ.take i)
section
variable {w wr wr' : World} {own own' own'' : Nat → Prop} {m RB c i k b wts : Nat} {cv pv : Value} {E : Eg} {R : Rf} {cs : List Cf} {EQ : List (Nat × Cf × Cs)} {Q : List (Nat × Cf × Cs × List (Nat × Int))} {cf : Cf} {s s' : Cs} {L L' : List (Nat × Int)}
theorem cfs_set (h : cfs { E with q := EQ } = cs) (hx : EQ[i]? = some (k, cf, s)) : cfs { E with q := EQ.set i (k, cf, s') } = cs := by
 rw [← h]
 show (EQ.set i (k, cf, s')).map (fun x => x.2.1) = EQ.map (fun x => x.2.1)
 rw [List.map_set]
 exact set_self (by rw [List.getElem?_map, hx]; rfl)
theorem Np.old (P : Np w wr own own' m RB cv pv E R c i cs EQ Q wts) (hu : Upd Nowhere wr wr') : Np w wr' own own' m RB cv pv E R c i cs EQ Q wts :=
 { P with rf := (rfC m cv pv E.pace _).kp P.rf hu (fun _ _ h => h), fo := P.fo.old hu, rb := Blk.kept P.rb hu id }
theorem Np.next (P : Np w wr own own' m RB cv pv E R c i cs EQ Q wts) (hx : EQ[i]? = some (k, cf, s)) (hr : runC E.pl E.pace E.now i cf s.l s = (none, s')) (h1 : RfP wr' own'' m cv pv E.pace { R with q := Q.set i (b, cf, s', L') }) (h2 : Fol w own wr' own'') (h3 : Blk wr' RB zP TP) (h4 : ¬ own'' RB)
 (h6 : Cor { E with q := EQ.set i (k, cf, s') } { R with q := Q.set i (b, cf, s', L') }) (h5 : OkE { E with q := EQ.set i (k, cf, s') } c) :
 Np w wr' own own'' m RB cv pv E R c (i + 1) cs (EQ.set i (k, cf, s')) (Q.set i (b, cf, s', L')) (wts + s'.l.length) := by
 obtain ⟨a1, a2, a3⟩ := set_parts (y := (k, cf, s')) hx
 obtain ⟨b1, b2⟩ := drop_at hx
 obtain ⟨_, b4⟩ := drop_at a1
 refine ⟨h1, h2, h3, h4, P.sz, h6, h5, cfs_set P.cl hx, by rw [List.length_set]; exact P.n, ?_, ?_⟩
 · rw [P.ru, b1, a3, b4, a2]
   conv => lhs; unfold runQ
   rw [hr]
   dsimp only
   rw [List.append_assoc]
   rfl
 · rw [b4, a2, sm_app, P.wy]
theorem Np.left_ (P : Np w wr own own' m RB cv pv E R c i cs EQ Q wts) (hx : EQ[i]? = some (k, cf, s)) {x : It} (hr : runC E.pl E.pace E.now i cf s.l s = (some x, s')) : runQ E.pl E.pace E.now 0 E.q = (some (i, x), EQ.set i (k, cf, s')) := by
 obtain ⟨a1, a2, a3⟩ := set_parts (y := (k, cf, s')) hx
 obtain ⟨b1, _⟩ := drop_at hx
 obtain ⟨b3, _⟩ := drop_at a1
 rw [P.ru, b1]
 conv => lhs; unfold runQ
 rw [hr]
 dsimp only
 congr 1
 have : EQ.set i (k, cf, s') = (EQ.set i (k, cf, s')).take i ++ (EQ.set i (k, cf, s')).drop i := (List.take_append_drop _ _).symm
 rw [this, a2, b3, a3]
theorem Np.end_ (P : Np w wr own own' m RB cv pv E R c i cs EQ Q wts) (hi : i = E.q.length) : runQ E.pl E.pace E.now 0 E.q = (none, EQ) ∧ wts = sm EQ := by
 have hd : EQ.drop i = [] := List.drop_eq_nil_of_le (by rw [P.n]; omega)
 have ht : EQ.take i = EQ := List.take_of_length_le (by rw [P.n]; omega)
 have := P.ru
 rw [hd, ht] at this
 refine ⟨by rw [this]; unfold runQ; simp, ?_⟩
 rw [← ht]; exact P.wy
end
end Go.Proofs.YtdddfmdcjjbegaaGreat.R43

