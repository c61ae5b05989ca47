/- A heap in memory; what writes do to it. No program in sight. -/
import Derived.Test.YtjbaibnmbeabnaaGreatDoorHeapPlain
import Derived.Test.YtjbaibnmbeabnaaGreatDoorLaws
import Derived.Test.YtjbaibnmbeabnaaGreatDoorSteps
import Derived.Test.YtjbaibnmbeabnaaGreatDoorCells
namespace Go.Proofs.YtjbaibnmbeabnaaGreatDoor.Heap
open Go.RowKit
section
variable {α : Type} {K : α → Value}
/-- The cells of entries. -/
def ents (K : α → Value) : List (Ent α) → List Value
  | [] => []
  | e :: r => .int .u64 e.1 :: .int .u64 e.2.1 :: K e.2.2 :: ents K r
theorem ents_length (l : List (Ent α)) : (ents K l).length = l.length * 3 := by
  induction l with
  | nil => rfl
  | cons e r ih => simp only [ents, List.length_cons, ih]; omega
theorem ents_append (l m : List (Ent α)) : ents K (l ++ m) = ents K l ++ ents K m := by
  induction l with
  | nil => rfl
  | cons e r ih => simp only [List.cons_append, ents, ih]
theorem ents_at : ∀ (l : List (Ent α)) (i : Nat) (e : Ent α), l[i]? = some e → (ents K l)[i * 3]? = some (.int .u64 e.1) ∧ (ents K l)[i * 3 + 1]? = some (.int .u64 e.2.1) ∧ (ents K l)[i * 3 + 2]? = some (K e.2.2) := by
  intro l
  induction l with
  | nil => intro i e h; cases h
  | cons a r ih =>
    intro i e h
    cases i with
    | zero => obtain rfl := Option.some.inj h; exact ⟨rfl, rfl, rfl⟩
    | succ i =>
      have h1 := ih i e (by simpa using h)
      have e1 : (i + 1) * 3 = i * 3 + 1 + 1 + 1 := by omega
      simp only [e1, ents, List.getElem?_cons_succ]
      exact h1
theorem ents_set : ∀ (l : List (Ent α)) (i : Nat) (e : Ent α), ents K (l.set i e) = (((ents K l).set (i * 3) (.int .u64 e.1)).set (i * 3 + 1) (.int .u64 e.2.1)).set (i * 3 + 2) (K e.2.2) := by
  intro l
  induction l with
  | nil => intro i e; simp [ents]
  | cons a r ih =>
    intro i e
    cases i with
    | zero => rfl
    | succ i =>
      have e1 : (i + 1) * 3 = i * 3 + 1 + 1 + 1 := by omega
      have e2 : (i + 1) * 3 + 1 = (i * 3 + 1) + 1 + 1 + 1 := by omega
      have e3 : (i + 1) * 3 + 2 = (i * 3 + 2) + 1 + 1 + 1 := by omega
      rw [e3, e2, e1]
      simp only [List.set_cons_succ, ents, ih]
theorem ents_take (l : List (Ent α)) (n : Nat) : ents K (l.take n) = (ents K l).take (n * 3) := by
  induction l generalizing n with
  | nil => simp [ents]
  | cons a r ih =>
    cases n with
    | zero => simp [ents]
    | succ n =>
      rw [show (n + 1) * 3 = n * 3 + 1 + 1 + 1 by omega]
      simp only [List.take_succ_cons, ents, ih]
/-- Three cells written into an entry's place. -/
def put3 (w : World) (g i : Nat) (a b c : Value) : World := ((w.setCell ⟨g, i * 3, none⟩ a).setCell ⟨g, i * 3 + 1, none⟩ b).setCell ⟨g, i * 3 + 2, none⟩ c
end
/-- Entries in a row of their own. -/
abbrev Row {α : Type} (K : α → Value) (E : TypeId) (w : World) (v : Value) (l : List (Ent α)) : Prop := w.ownsRow 0 E 3 v l.length (ents K l)
section
variable {α : Type} {K : α → Value} {E : TypeId} {w w' : World} {v : Value} {l : List (Ent α)}
theorem Row.form (h : Row K E w v l) : ∃ ad c, v = .slice ad l.length c := by
  rcases h.2 with ⟨rfl, h0⟩ | ⟨g, c, cur, rfl, _⟩
  · exact ⟨none, 0, by rw [h0]⟩
  · exact ⟨_, c, rfl⟩
/-- Where there is one, there is an array. -/
theorem Row.arr (h : Row K E w v l) (hl : 0 < l.length) : ∃ g c, v = .slice (Option.some ⟨g, 0, none⟩) l.length c ∧ l.length ≤ c ∧ c ≤ maxLen := by
  rcases h.2 with ⟨rfl, h0⟩ | ⟨g, c, cur, rfl, _, _, h1, h2, _⟩
  · omega
  · exact ⟨g, c, rfl, h1, h2⟩
theorem Row.cells {g c : Nat} (h : Row K E w (.slice (some ⟨g, 0, none⟩) l.length c) l) {i : Nat} {e : Ent α} (he : l[i]? = some e) :
    w.cell? ⟨g, i * 3, none⟩ = some (.int .u64 e.1) ∧ w.cell? ⟨g, i * 3 + 1, none⟩ = some (.int .u64 e.2.1) ∧ w.cell? ⟨g, i * 3 + 2, none⟩ = some (K e.2.2) ∧
    w.frozen? ⟨g, i * 3, none⟩ = false ∧ w.frozen? ⟨g, i * 3 + 1, none⟩ = false ∧ w.frozen? ⟨g, i * 3 + 2, none⟩ = false := by
  obtain ⟨cur, hb, _, _, _, ht⟩ := Blk.own h
  obtain ⟨e1, e2, e3⟩ := ents_at (K := K) l i e he
  have hi := get_lt he
  rw [← ht] at e1 e2 e3
  rw [List.getElem?_take_of_lt (by omega)] at e1 e2 e3
  exact ⟨hb.cellAt (by simpa using e1), hb.cellAt (by simpa using e2), hb.cellAt (by simpa using e3), hb.free _, hb.free _, hb.free _⟩
theorem Row.set {g c : Nat} (h : Row K E w (.slice (some ⟨g, 0, none⟩) l.length c) l) (i : Nat) (e : Ent α) :
    Row K E (put3 w g i (.int .u64 e.1) (.int .u64 e.2.1) (K e.2.2)) (.slice (some ⟨g, 0, none⟩) (l.set i e).length c) (l.set i e) := by
  rcases h.2 with ⟨h0, _⟩ | ⟨g', c', cur, he, hb, hB, h1, h2, h3, h4⟩
  · cases h0
  · cases he
    refine ⟨by rw [ents_length], .inr ⟨g, c, _, rfl, hb, ((Blk.set hB (i * 3) _).set (i * 3 + 1) _).set (i * 3 + 2) _, by simpa using h1, h2, by simpa using h3, ?_⟩⟩
    rw [ents_set, ← h4]
    simp only [Array.toList_setIfInBounds, List.take_set, List.length_set]
/-- The front of a row. -/
theorem Row.take {g c : Nat} (h : Row K E w (.slice (some ⟨g, 0, none⟩) l.length c) l) (n : Nat) (hn : n ≤ l.length) : Row K E w (.slice (some ⟨g, 0, none⟩) n c) (l.take n) := by
  rcases h.2 with ⟨h0, _⟩ | ⟨g', c', cur, he, hb, hB, h1, h2, h3, h4⟩
  · cases h0
  · cases he
    refine ⟨by rw [ents_length], .inr ⟨g, c, cur, by rw [List.length_take, Nat.min_eq_left hn], hb, hB, by rw [List.length_take]; omega, h2, h3, ?_⟩⟩
    rw [ents_take, ← h4, List.take_take, List.length_take, Nat.min_eq_left hn, Nat.min_eq_left (by omega)]
theorem Upd.entry {S : Nat → Prop} {g : Nat} (h : Upd S w w') (hg : g < w.heap.size → S g) (i : Nat) (a b c : Value) : Upd S w (put3 w' g i a b c) := ((h.setCell (a := ⟨g, _, none⟩) hg _).setCell (a := ⟨g, _, none⟩) hg _).setCell (a := ⟨g, _, none⟩) hg _
end
/-- A heap at block b: its entries are the slice v. -/
structure HeapIn {α : Type} (K : α → Value) (T E : TypeId) (w : World) (b : Nat) (v : Value) (came room : Nat) (l : List (Ent α)) : Prop where
  blk : Blk w b #[v, .int .u64 came, .int .i64 room] T
  row : Row K E w v l
  le : l.length ≤ room
  r1 : 1 ≤ room
  r2 : room ≤ 4096
  off : v.ownBlock ≠ some b
/-- The blocks of a heap. -/
def HeapOf (b : Nat) (v : Value) : Nat → Prop := fun k => k = b ∨ v.ownBlock = some k
section
variable {α : Type} {K : α → Value} {T E : TypeId} {w w' : World} {b : Nat} {v : Value} {came room : Nat} {l : List (Ent α)}
theorem HeapIn.lts (h : HeapIn K T E w b v came room l) {k : Nat} (hk : HeapOf b v k) : k < w.heap.size := by
  rcases hk with rfl | hk
  · exact h.blk.lt
  · exact (h.row.lt k hk).2
theorem HeapIn.kept (h : HeapIn K T E w b v came room l) {S : Nat → Prop} (hu : Upd S w w') (hs : ∀ k, HeapOf b v k → ¬ S k) : HeapIn K T E w' b v came room l :=
  { h with blk := h.blk.kept hu (hs b (.inl rfl)), row := ownsRow_upd h.row hu (fun k hk => hs k (.inr hk)) }
theorem HeapIn.old (h : HeapIn K T E w b v came room l) (hu : Upd Nowhere w w') : HeapIn K T E w' b v came room l := h.kept hu (fun _ _ h => h)
/-- An entry, written. -/
theorem HeapIn.set {g c : Nat} (h : HeapIn K T E w b (.slice (some ⟨g, 0, none⟩) l.length c) came room l) (i : Nat) (e : Ent α) :
    HeapIn K T E (put3 w g i (.int .u64 e.1) (.int .u64 e.2.1) (K e.2.2)) b (.slice (some ⟨g, 0, none⟩) (l.set i e).length c) came room (l.set i e) := by
  have hgb : b ≠ g := fun e => h.off (by rw [e]; rfl)
  have hu : Upd (fun k => k = g) w (put3 w g i (.int .u64 e.1) (.int .u64 e.2.1) (K e.2.2)) := Upd.entry (S := fun k => k = g) (Upd.refl _ _) (fun _ => rfl) _ _ _ _
  exact { h with blk := by rw [List.length_set]; exact h.blk.kept hu hgb, row := h.row.set i e, le := by rw [List.length_set]; exact h.le, off := h.off }
/-- The same, at whatever length the slice is said to have. -/
theorem HeapIn.len {g : Option Addr} {n c : Nat} (h : HeapIn K T E w b (.slice g n c) came room l) : n = l.length := by
  rcases h.row.2 with ⟨h0, h1⟩ | ⟨g', c', cur, he, _⟩
  · cases h0; omega
  · cases he; rfl
theorem HeapIn.at {g n c : Nat} (h : HeapIn K T E w b (.slice (some ⟨g, 0, none⟩) n c) came room l) {i : Nat} {e : Ent α} (he : l[i]? = some e) :
    w.cell? ⟨g, i * 3, none⟩ = some (.int .u64 e.1) ∧ w.cell? ⟨g, i * 3 + 1, none⟩ = some (.int .u64 e.2.1) ∧ w.cell? ⟨g, i * 3 + 2, none⟩ = some (K e.2.2) ∧
    w.frozen? ⟨g, i * 3, none⟩ = false ∧ w.frozen? ⟨g, i * 3 + 1, none⟩ = false ∧ w.frozen? ⟨g, i * 3 + 2, none⟩ = false := by
  obtain rfl := h.len
  exact h.row.cells he
theorem HeapIn.setN {g n c : Nat} (h : HeapIn K T E w b (.slice (some ⟨g, 0, none⟩) n c) came room l) (i : Nat) (e : Ent α) :
    HeapIn K T E (put3 w g i (.int .u64 e.1) (.int .u64 e.2.1) (K e.2.2)) b (.slice (some ⟨g, 0, none⟩) n c) came room (l.set i e) := by
  obtain rfl := h.len
  have := h.set i e
  rw [List.length_set] at this
  exact this
theorem HeapIn.swap {g n c : Nat} (h : HeapIn K T E w b (.slice (some ⟨g, 0, none⟩) n c) came room l) {i j : Nat} {x y : Ent α} (hi : l[i]? = some x) (hj : l[j]? = some y) :
    HeapIn K T E (put3 (put3 w g i (.int .u64 y.1) (.int .u64 y.2.1) (K y.2.2)) g j (.int .u64 x.1) (.int .u64 x.2.1) (K x.2.2)) b (.slice (some ⟨g, 0, none⟩) n c) came room (swp l i j) := by
  rw [swp_eq hi hj]
  exact (h.setN i y).setN j x
/-- The slice, written. -/
theorem HeapIn.row' {v' : Value} {l' : List (Ent α)} (h : HeapIn K T E w b v came room l) (hr : Row K E w v' l') (hl : l'.length ≤ room) (ho : v'.ownBlock ≠ some b) : HeapIn K T E (w.setCell ⟨b, 0, none⟩ v') b v' came room l' := by
  have hu : Upd (fun k => k = b) w (w.setCell ⟨b, 0, none⟩ v') := Upd.setCell (S := fun k => k = b) (Upd.refl _ _) (fun _ => rfl) _
  exact { h with blk := by simpa using h.blk.set 0 v', row := ownsRow_upd hr hu (fun k hk e => ho (by rw [hk, e])), le := hl, off := ho }
/-- The slice cut to its front. -/
theorem HeapIn.cut {g n c : Nat} (h : HeapIn K T E w b (.slice (some ⟨g, 0, none⟩) n c) came room l) (m : Nat) (hm : m ≤ n) : HeapIn K T E (w.setCell ⟨b, 0, none⟩ (.slice (some ⟨g, 0, none⟩) m c)) b (.slice (some ⟨g, 0, none⟩) m c) came room (l.take m) := by
  obtain rfl := h.len
  exact h.row' (Row.take h.row m hm) (by have := h.le; simp; omega) h.off
/-- How many came, written. -/
theorem HeapIn.setC (h : HeapIn K T E w b v came room l) (n : Nat) : HeapIn K T E (w.setCell ⟨b, 1, none⟩ (.int .u64 n)) b v n room l := by
  have hu : Upd (fun k => k = b) w (w.setCell ⟨b, 1, none⟩ (.int .u64 n)) := Upd.setCell (S := fun k => k = b) (Upd.refl _ _) (fun _ => rfl) _
  exact { h with blk := by simpa using h.blk.set 1 (.int .u64 n), row := ownsRow_upd h.row hu (fun k hk e => h.off (by rw [hk, e])) }
end
end Go.Proofs.YtjbaibnmbeabnaaGreatDoor.Heap
