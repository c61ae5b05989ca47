/- The reference's turns in memory. No program in sight. -/
import Derived.Test.YtopibbaopglggaaRef12Core
import Derived.Test.YtopibbaopglggaaSteps
namespace Go.Proofs.Ytopibbaopglggaa.Ref29
open Go.RowKit
open Ref12 (nums vals vals_at vals_set vals_len)
/-- An item: its class, its size, its number. -/
abbrev It := Nat × Nat × Int
def icells : List It → List Value
  | [] => []
  | e :: r => .int .i64 (e.1 : Nat) :: .int .u64 (e.2.1 : Nat) :: .int .i64 e.2.2 :: icells r
theorem icells_len (l : List It) : (icells l).length = l.length * 3 := by
  induction l with
  | nil => rfl
  | cons e r ih => simp only [icells, List.length_cons, ih]; omega
theorem icells_append (l m : List It) : icells (l ++ m) = icells l ++ icells m := by
  induction l with
  | nil => rfl
  | cons e r ih => simp only [List.cons_append, icells, ih]
theorem icells_at : ∀ (l : List It) (i : Nat) (e : It), l[i]? = some e → (icells l)[i * 3]? = some (.int .i64 (e.1 : Nat)) ∧ (icells l)[i * 3 + 1]? = some (.int .u64 (e.2.1 : Nat)) ∧ (icells l)[i * 3 + 2]? = some (.int .i64 e.2.2) := by
  intro l
  induction l with
  | nil => intro i e h; cases h
  | cons a r ih =>
    intro i e h
    cases i with
    | zero => obtain rfl := Option.some.inj h; exact ⟨rfl, rfl, rfl⟩
    | succ i =>
      have h1 := ih i e (by simpa using h)
      have e1 : (i + 1) * 3 = i * 3 + 1 + 1 + 1 := by omega
      simp only [e1, icells, List.getElem?_cons_succ]
      exact h1
theorem icells_one (l : List It) : ∀ u ∈ icells l, u.oneCell' = true := by
  induction l with
  | nil => intro u h; cases h
  | cons a r ih =>
    intro u h
    rcases List.mem_cons.1 h with rfl | h
    · rfl
    · rcases List.mem_cons.1 h with rfl | h
      · rfl
      · rcases List.mem_cons.1 h with rfl | h
        · rfl
        · exact ih u h
theorem icells_take (l : List It) (n : Nat) : icells (l.take n) = (icells l).take (n * 3) := by
  induction l generalizing n with
  | nil => simp [icells]
  | cons a r ih =>
    cases n with
    | zero => simp [icells]
    | succ n =>
      rw [show (n + 1) * 3 = n * 3 + 1 + 1 + 1 by omega]
      simp only [List.take_succ_cons, icells, ih]
theorem icells_drop (l : List It) (n : Nat) : icells (l.drop n) = (icells l).drop (n * 3) := by
  induction l generalizing n with
  | nil => simp [icells]
  | cons a r ih =>
    cases n with
    | zero => simp [icells]
    | succ n =>
      rw [show (n + 1) * 3 = n * 3 + 1 + 1 + 1 by omega]
      simp only [List.drop_succ_cons, icells, ih]
def irow (l : List Nat) : List Value := l.map fun x => .int .i64 (x : Nat)
theorem irow_len (l : List Nat) : (irow l).length = l.length := by simp [irow]
theorem irow_at {l : List Nat} {i x : Nat} (h : l[i]? = some x) : (irow l)[i]? = some (.int .i64 (x : Nat)) := by simp [irow, h]
/-- The reference's turns. -/
structure R29 (T U I J : TypeId) (B : Nat) (w : World) (b n m gq oq cq : Nat) (cv iv rv : Value) (q cr : Nat → Nat) (its : List It) (row : List Nat) (bg : Bool) : Prop where
  blk : Blk w b #[.slice (some ⟨gq, oq, none⟩) n cq, cv, iv, rv, .bool bg] T
  qc : ∀ i, i < n → w.cell? ⟨gq, oq + i, none⟩ = some (.int .u64 (q i : Nat))
  qb : gq < B
  crd : w.ownsRow B U 1 cv m (nums cr m)
  itm : w.ownsRow B I 3 iv its.length (icells its)
  rww : w.ownsRow B J 1 rv row.length (irow row)
  low : B ≤ b
  ob_c : cv.ownBlock ≠ some b
  ob_i : iv.ownBlock ≠ some b
  ob_r : rv.ownBlock ≠ some b
  ap_ci : ∀ k, cv.ownBlock = some k → iv.ownBlock ≠ some k
  ap_cr : ∀ k, cv.ownBlock = some k → rv.ownBlock ≠ some k
  ap_ir : ∀ k, iv.ownBlock = some k → rv.ownBlock ≠ some k
/-- The blocks of it. -/
def Of (b : Nat) (cv iv rv : Value) : Nat → Prop := fun k => k = b ∨ cv.ownBlock = some k ∨ iv.ownBlock = some k ∨ rv.ownBlock = some k
section
variable {T U I J : TypeId} {B : Nat} {w w' wx w1 : World} {b n m m' gq oq cq : Nat} {cv iv rv v : Value} {q cr cr' : Nat → Nat} {its its' : List It} {row row' : List Nat} {bg : Bool}
theorem R29.lts (h : R29 T U I J B w b n m gq oq cq cv iv rv q cr its row bg) {k : Nat} (hk : Of b cv iv rv k) : B ≤ k ∧ k < w.heap.size := by
  rcases hk with rfl | hk | hk | hk
  · exact ⟨h.low, h.blk.lt⟩
  · exact h.crd.lt k hk
  · exact h.itm.lt k hk
  · exact h.rww.lt k hk
theorem R29.kept (h : R29 T U I J B w b n m gq oq cq cv iv rv q cr its row bg) {S : Nat → Prop} (hu : Upd S w w') (hs : ∀ k, Of b cv iv rv k → ¬ S k) (hq : ¬ S gq) : R29 T U I J B w' b n m gq oq cq cv iv rv q cr its row bg :=
  { h with blk := h.blk.kept hu (hs b (.inl rfl)), qc := fun i hi => (hu.cell (b := gq) (oq + i) (Nat.lt_of_lt_of_le h.qb (Nat.le_trans h.low (Nat.le_of_lt h.blk.lt))) hq).trans (h.qc i hi), crd := ownsRow_upd h.crd hu (fun k hk => hs k (.inr (.inl hk))), itm := ownsRow_upd h.itm hu (fun k hk => hs k (.inr (.inr (.inl hk)))), rww := ownsRow_upd h.rww hu (fun k hk => hs k (.inr (.inr (.inr hk)))) }
theorem R29.old (h : R29 T U I J B w b n m gq oq cq cv iv rv q cr its row bg) (hu : Upd Nowhere w w') : R29 T U I J B w' b n m gq oq cq cv iv rv q cr its row bg := h.kept hu (fun _ _ h => h) id
theorem R29.newCr (h : R29 T U I J B w b n m gq oq cq cv iv rv q cr its row bg) (hx : Upd Nowhere w wx) (hu : Upd (fun k => cv.ownBlock = some k) wx w1) (ho : w1.ownsRow B U 1 v m' (nums cr' m')) (hn : OwnOrNew wx cv v) :
    R29 T U I J B (w1.setCell ⟨b, 1, none⟩ v) b n m' gq oq cq v iv rv q cr' its row bg ∧ Blk w1 b #[.slice (some ⟨gq, oq, none⟩) n cq, cv, iv, rv, .bool bg] T := by
  have hb1 : Blk w1 b #[.slice (some ⟨gq, oq, none⟩) n cq, cv, iv, rv, .bool bg] T := (h.blk.kept hx id).kept hu (fun e => h.ob_c e)
  have hbs : b < wx.heap.size := (h.blk.kept hx id).lt
  have hu2 : Upd (fun k => k = b) w1 (w1.setCell ⟨b, 1, none⟩ v) := (Upd.refl (fun k => k = b) w1).setCell (a := ⟨b, 1, none⟩) (fun _ => rfl) _
  have hvb : v.ownBlock ≠ some b := fun e => by
    rcases hn b e with h1 | h1
    · exact h.ob_c h1
    · exact absurd hbs (Nat.not_lt.2 h1)
  have hgq : gq < w.heap.size := Nat.lt_of_lt_of_le h.qb (Nat.le_trans h.low (Nat.le_of_lt h.blk.lt))
  have hq : ∀ i, i < n → (w1.setCell ⟨b, 1, none⟩ v).cell? ⟨gq, oq + i, none⟩ = some (.int .u64 (q i : Nat)) := fun i hi => by
    rw [hu2.cell _ (Nat.lt_of_lt_of_le hgq (Nat.le_trans hx.size hu.size)) (fun e => by have := h.qb; have := h.low; omega), hu.cell _ (Nat.lt_of_lt_of_le hgq hx.size) (fun e => by have := (h.crd.lt gq e).1; have := h.qb; omega), hx.cell _ hgq id]
    exact h.qc i hi
  have h_i := ownsRow_upd (ownsRow_upd (ownsRow_upd h.itm hx (fun _ _ h => h)) hu (fun k hk e => h.ap_ci k e hk)) hu2 (fun k hk e => h.ob_i (by rw [hk, e]))
  have h_r := ownsRow_upd (ownsRow_upd (ownsRow_upd h.rww hx (fun _ _ h => h)) hu (fun k hk e => h.ap_cr k e hk)) hu2 (fun k hk e => h.ob_r (by rw [hk, e]))
  have h_c := ownsRow_upd ho hu2 (fun k hk e => hvb (by rw [hk, e]))
  have ap_ci' : ∀ k, v.ownBlock = some k → iv.ownBlock ≠ some k := fun k hk hk2 => by
    rcases hn k hk with h1 | h1
    · exact h.ap_ci k h1 hk2
    · exact absurd (h.itm.lt k hk2).2 (Nat.not_lt.2 (Nat.le_trans hx.size h1))
  have ap_cr' : ∀ k, v.ownBlock = some k → rv.ownBlock ≠ some k := fun k hk hk2 => by
    rcases hn k hk with h1 | h1
    · exact h.ap_cr k h1 hk2
    · exact absurd (h.rww.lt k hk2).2 (Nat.not_lt.2 (Nat.le_trans hx.size h1))
  exact ⟨⟨hb1.set 1 _, hq, h.qb, h_c, h_i, h_r, h.low, hvb, h.ob_i, h.ob_r, ap_ci', ap_cr', h.ap_ir⟩, hb1⟩
theorem R29.newIts (h : R29 T U I J B w b n m gq oq cq cv iv rv q cr its row bg) (hx : Upd Nowhere w wx) (hu : Upd (fun k => iv.ownBlock = some k) wx w1) (ho : w1.ownsRow B I 3 v its'.length (icells its')) (hn : OwnOrNew wx iv v) :
    R29 T U I J B (w1.setCell ⟨b, 2, none⟩ v) b n m gq oq cq cv v rv q cr its' row bg ∧ Blk w1 b #[.slice (some ⟨gq, oq, none⟩) n cq, cv, iv, rv, .bool bg] T := by
  have hb1 : Blk w1 b #[.slice (some ⟨gq, oq, none⟩) n cq, cv, iv, rv, .bool bg] T := (h.blk.kept hx id).kept hu (fun e => h.ob_i e)
  have hbs : b < wx.heap.size := (h.blk.kept hx id).lt
  have hu2 : Upd (fun k => k = b) w1 (w1.setCell ⟨b, 2, none⟩ v) := (Upd.refl (fun k => k = b) w1).setCell (a := ⟨b, 2, none⟩) (fun _ => rfl) _
  have hvb : v.ownBlock ≠ some b := fun e => by
    rcases hn b e with h1 | h1
    · exact h.ob_i h1
    · exact absurd hbs (Nat.not_lt.2 h1)
  have hgq : gq < w.heap.size := Nat.lt_of_lt_of_le h.qb (Nat.le_trans h.low (Nat.le_of_lt h.blk.lt))
  have hq : ∀ i, i < n → (w1.setCell ⟨b, 2, none⟩ v).cell? ⟨gq, oq + i, none⟩ = some (.int .u64 (q i : Nat)) := fun i hi => by
    rw [hu2.cell _ (Nat.lt_of_lt_of_le hgq (Nat.le_trans hx.size hu.size)) (fun e => by have := h.qb; have := h.low; omega), hu.cell _ (Nat.lt_of_lt_of_le hgq hx.size) (fun e => by have := (h.itm.lt gq e).1; have := h.qb; omega), hx.cell _ hgq id]
    exact h.qc i hi
  have h_c := ownsRow_upd (ownsRow_upd (ownsRow_upd h.crd hx (fun _ _ h => h)) hu (fun k hk e => h.ap_ci k hk e)) hu2 (fun k hk e => h.ob_c (by rw [hk, e]))
  have h_r := ownsRow_upd (ownsRow_upd (ownsRow_upd h.rww hx (fun _ _ h => h)) hu (fun k hk e => h.ap_ir k e hk)) hu2 (fun k hk e => h.ob_r (by rw [hk, e]))
  have h_i := ownsRow_upd ho hu2 (fun k hk e => hvb (by rw [hk, e]))
  have ap_ci' : ∀ k, cv.ownBlock = some k → v.ownBlock ≠ some k := fun k hk hk2 => by
    rcases hn k hk2 with h1 | h1
    · exact h.ap_ci k hk h1
    · exact absurd (h.crd.lt k hk).2 (Nat.not_lt.2 (Nat.le_trans hx.size h1))
  have ap_ir' : ∀ k, v.ownBlock = some k → rv.ownBlock ≠ some k := fun k hk hk2 => by
    rcases hn k hk with h1 | h1
    · exact h.ap_ir k h1 hk2
    · exact absurd (h.rww.lt k hk2).2 (Nat.not_lt.2 (Nat.le_trans hx.size h1))
  exact ⟨⟨hb1.set 2 _, hq, h.qb, h_c, h_i, h_r, h.low, h.ob_c, hvb, h.ob_r, ap_ci', h.ap_cr, ap_ir'⟩, hb1⟩
theorem R29.newRow (h : R29 T U I J B w b n m gq oq cq cv iv rv q cr its row bg) (hx : Upd Nowhere w wx) (hu : Upd (fun k => rv.ownBlock = some k) wx w1) (ho : w1.ownsRow B J 1 v row'.length (irow row')) (hn : OwnOrNew wx rv v) :
    R29 T U I J B (w1.setCell ⟨b, 3, none⟩ v) b n m gq oq cq cv iv v q cr its row' bg ∧ Blk w1 b #[.slice (some ⟨gq, oq, none⟩) n cq, cv, iv, rv, .bool bg] T := by
  have hb1 : Blk w1 b #[.slice (some ⟨gq, oq, none⟩) n cq, cv, iv, rv, .bool bg] T := (h.blk.kept hx id).kept hu (fun e => h.ob_r e)
  have hbs : b < wx.heap.size := (h.blk.kept hx id).lt
  have hu2 : Upd (fun k => k = b) w1 (w1.setCell ⟨b, 3, none⟩ v) := (Upd.refl (fun k => k = b) w1).setCell (a := ⟨b, 3, none⟩) (fun _ => rfl) _
  have hvb : v.ownBlock ≠ some b := fun e => by
    rcases hn b e with h1 | h1
    · exact h.ob_r h1
    · exact absurd hbs (Nat.not_lt.2 h1)
  have hgq : gq < w.heap.size := Nat.lt_of_lt_of_le h.qb (Nat.le_trans h.low (Nat.le_of_lt h.blk.lt))
  have hq : ∀ i, i < n → (w1.setCell ⟨b, 3, none⟩ v).cell? ⟨gq, oq + i, none⟩ = some (.int .u64 (q i : Nat)) := fun i hi => by
    rw [hu2.cell _ (Nat.lt_of_lt_of_le hgq (Nat.le_trans hx.size hu.size)) (fun e => by have := h.qb; have := h.low; omega), hu.cell _ (Nat.lt_of_lt_of_le hgq hx.size) (fun e => by have := (h.rww.lt gq e).1; have := h.qb; omega), hx.cell _ hgq id]
    exact h.qc i hi
  have h_c := ownsRow_upd (ownsRow_upd (ownsRow_upd h.crd hx (fun _ _ h => h)) hu (fun k hk e => h.ap_cr k hk e)) hu2 (fun k hk e => h.ob_c (by rw [hk, e]))
  have h_i := ownsRow_upd (ownsRow_upd (ownsRow_upd h.itm hx (fun _ _ h => h)) hu (fun k hk e => h.ap_ir k hk e)) hu2 (fun k hk e => h.ob_i (by rw [hk, e]))
  have h_r := ownsRow_upd ho hu2 (fun k hk e => hvb (by rw [hk, e]))
  have ap_cr' : ∀ k, cv.ownBlock = some k → v.ownBlock ≠ some k := fun k hk hk2 => by
    rcases hn k hk2 with h1 | h1
    · exact h.ap_cr k hk h1
    · exact absurd (h.crd.lt k hk).2 (Nat.not_lt.2 (Nat.le_trans hx.size h1))
  have ap_ir' : ∀ k, iv.ownBlock = some k → v.ownBlock ≠ some k := fun k hk hk2 => by
    rcases hn k hk2 with h1 | h1
    · exact h.ap_ir k hk h1
    · exact absurd (h.itm.lt k hk).2 (Nat.not_lt.2 (Nat.le_trans hx.size h1))
  exact ⟨⟨hb1.set 3 _, hq, h.qb, h_c, h_i, h_r, h.low, h.ob_c, h.ob_i, hvb, h.ap_ci, ap_cr', ap_ir'⟩, hb1⟩
theorem R29.setBg (h : R29 T U I J B w b n m gq oq cq cv iv rv q cr its row bg) (bg' : Bool) : R29 T U I J B (w.setCell ⟨b, 4, none⟩ (.bool bg')) b n m gq oq cq cv iv rv q cr its row bg' := by
  have hu : Upd (fun k => k = b) w (w.setCell ⟨b, 4, none⟩ (.bool bg')) := (Upd.refl (fun k => k = b) w).setCell (a := ⟨b, 4, none⟩) (fun _ => rfl) _
  exact { h with blk := h.blk.set 4 _, qc := fun i hi => (hu.cell (b := gq) (oq + i) (Nat.lt_of_lt_of_le h.qb (Nat.le_trans h.low (Nat.le_of_lt h.blk.lt))) (fun e => by have := h.qb; have := h.low; omega)).trans (h.qc i hi), crd := ownsRow_upd h.crd hu (fun k hk e => h.ob_c (by rw [hk, e])), itm := ownsRow_upd h.itm hu (fun k hk e => h.ob_i (by rw [hk, e])), rww := ownsRow_upd h.rww hu (fun k hk e => h.ob_r (by rw [hk, e])) }
theorem R29.setC {g c : Nat} (h : R29 T U I J B w b n m gq oq cq (.slice (some ⟨g, 0, none⟩) m c) iv rv q cr its row bg) {i : Nat} (hi : i < m) (x : Nat) : R29 T U I J B (w.setCell ⟨g, i, none⟩ (.int .u64 (x : Nat))) b n m gq oq cq (.slice (some ⟨g, 0, none⟩) m c) iv rv q (upd cr i x) its row bg := by
  have hu : Upd (fun k => k = g) w (w.setCell ⟨g, i, none⟩ (.int .u64 (x : Nat))) := (Upd.refl (fun k => k = g) w).setCell (a := ⟨g, i, none⟩) (fun _ => rfl) _
  have hgb : b ≠ g := fun e => h.ob_c (by rw [e]; rfl)
  refine { h with blk := h.blk.kept hu hgb, qc := fun i hi => (hu.cell (b := gq) (oq + i) (Nat.lt_of_lt_of_le h.qb (Nat.le_trans h.low (Nat.le_of_lt h.blk.lt))) (fun e => by have := (h.crd.lt g rfl).1; have := h.qb; omega)).trans (h.qc i hi), crd := ?_, itm := ownsRow_upd h.itm hu (fun k hk e => h.ap_ci g rfl (by rw [hk, e])), rww := ownsRow_upd h.rww hu (fun k hk e => h.ap_cr g rfl (by rw [hk, e])) }
  rcases h.crd.2 with ⟨h0, _⟩ | ⟨g', c', cur, he, hB, hb, a1, a2, a3, a4⟩
  · cases h0
  · cases he
    refine ⟨by unfold nums; simp [vals_len], .inr ⟨g, c, _, rfl, hB, Blk.set hb i _, a1, a2, by simpa using a3, ?_⟩⟩
    have e : nums (upd cr i x) m = (nums cr m).set i (.int .u64 (x : Nat)) := by
      unfold nums
      rw [vals_set _ _ hi]
      congr 1
      funext j
      unfold upd
      split <;> rfl
    rw [e, ← a4]
    simp only [Array.toList_setIfInBounds, List.take_set]
theorem R29.ccell {g c : Nat} (h : R29 T U I J B w b n m gq oq cq (.slice (some ⟨g, 0, none⟩) m c) iv rv q cr its row bg) {i : Nat} (hi : i < m) : w.cell? ⟨g, i, none⟩ = some (.int .u64 (cr i : Nat)) ∧ w.frozen? ⟨g, i, none⟩ = false := by
  obtain ⟨cur, hb, _, _, _, ht⟩ := Blk.own h.crd
  refine ⟨?_, hb.free _⟩
  have h1 := vals_at (fun i => Value.int .u64 (cr i : Nat)) hi
  have h2 : vals (fun i => Value.int .u64 (cr i : Nat)) m = nums cr m := rfl
  rw [h2, ← ht, List.getElem?_take_of_lt (by omega)] at h1
  exact hb.cellAt (by simpa using h1)
theorem R29.cform (h : R29 T U I J B w b n m gq oq cq cv iv rv q cr its row bg) (hm : 0 < m) : ∃ g c, cv = .slice (some ⟨g, 0, none⟩) m c := by
  rcases h.crd.2 with ⟨_, h0⟩ | ⟨g, c, cur, rfl, _⟩
  · omega
  · exact ⟨g, c, rfl⟩
theorem R29.icell (h : R29 T U I J B w b n m gq oq cq cv iv rv q cr its row bg) {i : Nat} {e : It} (he : its[i]? = some e) : ∃ g c, iv = .slice (some ⟨g, 0, none⟩) its.length c ∧ w.cell? ⟨g, i * 3, none⟩ = some (.int .i64 (e.1 : Nat)) ∧ w.cell? ⟨g, i * 3 + 1, none⟩ = some (.int .u64 (e.2.1 : Nat)) ∧ w.cell? ⟨g, i * 3 + 2, none⟩ = some (.int .i64 e.2.2) := by
  have hi := (List.getElem?_eq_some_iff.1 he).1
  rcases h.itm.2 with ⟨rfl, h0⟩ | ⟨g, c, cur, rfl, _, hb, h1, h2, h3, ht⟩
  · omega
  · obtain ⟨e1, e2, e3⟩ := icells_at its i e he
    rw [← ht] at e1 e2 e3
    rw [List.getElem?_take_of_lt (by omega)] at e1 e2 e3
    exact ⟨g, c, rfl, Blk.cellAt hb (by simpa using e1), Blk.cellAt hb (by simpa using e2), Blk.cellAt hb (by simpa using e3)⟩
theorem R29.rcell (h : R29 T U I J B w b n m gq oq cq cv iv rv q cr its row bg) {i x : Nat} (he : row[i]? = some x) : ∃ g c, rv = .slice (some ⟨g, 0, none⟩) row.length c ∧ w.cell? ⟨g, i, none⟩ = some (.int .i64 (x : Nat)) := by
  have hi := (List.getElem?_eq_some_iff.1 he).1
  rcases h.rww.2 with ⟨rfl, h0⟩ | ⟨g, c, cur, rfl, _, hb, h1, h2, h3, ht⟩
  · omega
  · have e1 := irow_at he
    rw [← ht] at e1
    rw [List.getElem?_take_of_lt (by omega)] at e1
    exact ⟨g, c, rfl, Blk.cellAt hb (by simpa using e1)⟩
end
end Go.Proofs.Ytopibbaopglggaa.Ref29
