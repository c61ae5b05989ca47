/- Rows of pairs (a rank, a number), two cells each; where one comes in. No program in sight. -/
import Derived.Test.YtjbaibnmbeabnaaGreatDoorLaws
namespace Go.Proofs.YtjbaibnmbeabnaaGreatDoor
open Go.RowKit
/-- The cells of pairs. -/
def pcs : List (Nat × Int) → List Value
  | [] => []
  | e :: r => .int .u64 (e.1 : Nat) :: .int .i64 e.2 :: pcs r
theorem pcs_length (l : List (Nat × Int)) : (pcs l).length = l.length * 2 := by
  induction l with
  | nil => rfl
  | cons e r ih => simp only [pcs, List.length_cons, ih]; omega
theorem pcs_append (l m : List (Nat × Int)) : pcs (l ++ m) = pcs l ++ pcs m := by
  induction l with
  | nil => rfl
  | cons e r ih => simp only [List.cons_append, pcs, ih]
theorem pcs_at : ∀ (l : List (Nat × Int)) (i : Nat) (e : Nat × Int), l[i]? = some e → (pcs l)[i * 2]? = some (.int .u64 (e.1 : Nat)) ∧ (pcs l)[i * 2 + 1]? = some (.int .i64 e.2) := by
  intro l
  induction l with
  | nil => intro i e h; cases h
  | cons a r ih =>
    intro i e h
    cases i with
    | zero => obtain rfl := Option.some.inj h; exact ⟨rfl, rfl⟩
    | succ i =>
      have h1 := ih i e (by simpa using h)
      have e1 : (i + 1) * 2 = i * 2 + 1 + 1 := by omega
      simp only [e1, pcs, List.getElem?_cons_succ]
      exact h1
/-- Pairs in a row of their own. -/
abbrev PRow (E : TypeId) (base : Nat) (w : World) (v : Value) (l : List (Nat × Int)) : Prop := w.ownsRow base E 2 v l.length (pcs l)
section
variable {E : TypeId} {base : Nat} {w w' : World} {v : Value} {l : List (Nat × Int)}
theorem PRow.form (h : PRow E base w v l) : ∃ ad c, v = .slice ad l.length c := by
  rcases h.2 with ⟨rfl, h0⟩ | ⟨g, c, cur, rfl, _⟩
  · exact ⟨none, 0, by rw [h0]⟩
  · exact ⟨_, c, rfl⟩
theorem PRow.cell (h : PRow E base w v l) {i : Nat} {e : Nat × Int} (he : l[i]? = some e) : ∃ g c, v = .slice (some ⟨g, 0, none⟩) l.length c ∧ g < w.heap.size ∧ w.cell? ⟨g, i * 2, none⟩ = some (.int .u64 (e.1 : Nat)) ∧ w.cell? ⟨g, i * 2 + 1, none⟩ = some (.int .i64 e.2) := by
  have hi : i < l.length := by
    rcases Nat.lt_or_ge i l.length with h' | h'
    · exact h'
    · rw [List.getElem?_eq_none h'] at he; cases he
  rcases h.2 with ⟨rfl, h0⟩ | ⟨g, c, cur, rfl, _, hb, h1, h2, h3, ht⟩
  · omega
  · obtain ⟨e1, e2⟩ := pcs_at l i e he
    rw [← ht] at e1 e2
    rw [List.getElem?_take_of_lt (by omega)] at e1 e2
    exact ⟨g, c, rfl, Blk.lt hb, Blk.cellAt hb (by simpa using e1), Blk.cellAt hb (by simpa using e2)⟩
theorem PRow.nil (E : TypeId) (base : Nat) (w : World) : PRow E base w (.slice none 0 0) [] := ownsRow_nil _ _ _ _
theorem PRow.push {n : Nat} (e : Nat × Int) (hn : l.length + 1 = n) (h : w.ownsRow base E 2 v n (pcs l ++ [.int .u64 (e.1 : Nat), .int .i64 e.2])) : PRow E base w v (l ++ [e]) := by
  have e1 : (l ++ [e]).length = n := by simpa using hn
  have e2 : pcs (l ++ [e]) = pcs l ++ [.int .u64 (e.1 : Nat), .int .i64 e.2] := by rw [pcs_append]; rfl
  unfold PRow
  rw [e1, e2]
  exact h
end
/-- One comes in behind all that are not above it. -/
def insR (p : Nat × Int) : List (Nat × Int) → List (Nat × Int)
  | [] => [p]
  | a :: r => if p.1 < a.1 then p :: a :: r else a :: insR p r
theorem insR_perm (p : Nat × Int) (l : List (Nat × Int)) : (insR p l).Perm (p :: l) := by
  induction l with
  | nil => exact List.Perm.refl _
  | cons a r ih =>
    unfold insR
    split
    · exact List.Perm.refl _
    · exact (ih.cons a).trans (List.Perm.swap p a r)
theorem insR_length (p : Nat × Int) (l : List (Nat × Int)) : (insR p l).length = l.length + 1 := by rw [(insR_perm p l).length_eq]; rfl
end Go.Proofs.YtjbaibnmbeabnaaGreatDoor
