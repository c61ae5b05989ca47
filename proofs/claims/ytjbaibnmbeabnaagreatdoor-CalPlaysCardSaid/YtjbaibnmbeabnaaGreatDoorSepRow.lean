/- A row of a call's own, of things of any number of cells, among other things. No program in sight. -/
import Derived.Test.YtjbaibnmbeabnaaGreatDoorSep
import Derived.Test.YtjbaibnmbeabnaaGreatDoorSteps
import Derived.Test.YtjbaibnmbeabnaaGreatDoorMade
namespace Go.Proofs.YtjbaibnmbeabnaaGreatDoor
open Go.RowKit
/-- A row of n things of W cells each: the slice v. -/
def rowW (T : TypeId) (W : Nat) (v : Value) (n : Nat) (xs : List Value) : Comp := ⟨fun w o => w.ownsRow 0 T W v n xs ∧ ∀ k, o k ↔ v.ownBlock = some k, fun h hu hS => ⟨ownsRow_upd h.1 hu (fun k hk => hS k ((h.2 k).2 hk)), h.2⟩, fun h hk => (h.1.lt _ ((h.2 _).1 hk)).2⟩
section
variable {T : TypeId} {W n c g : Nat} {xs : List Value} {w w' w0 : World} {o : Nat → Prop} {v : Value}
theorem rowW_arr (h : (rowW T W v n xs).P w o) (hn : 0 < n) : ∃ g c, v = .slice (some ⟨g, 0, none⟩) n c := by
  rcases h.1.2 with ⟨_, h0⟩ | ⟨g, c, cur, rfl, _⟩
  · omega
  · exact ⟨g, c, rfl⟩
theorem rowW_len (h : (rowW T W v n xs).P w o) : xs.length = n * W := h.1.1
/-- A cell of the row. -/
theorem rowW_cell (h : (rowW T W (.slice (some ⟨g, 0, none⟩) n c) n xs).P w o) {k : Nat} {u : Value} (hu : xs[k]? = some u) : w.cell? ⟨g, k, none⟩ = some u ∧ w.frozen? ⟨g, k, none⟩ = false := by
  obtain ⟨cur, hb, _, _, _, ht⟩ := Blk.own h.1
  have hlt : k < n * W := by
    rw [← rowW_len h]
    rcases Nat.lt_or_ge k xs.length with h' | h'
    · exact h'
    · rw [List.getElem?_eq_none h'] at hu; cases hu
  rw [← ht, List.getElem?_take_of_lt hlt] at hu
  exact ⟨hb.cellAt (by simpa using hu), hb.free _⟩
/-- A cell of the row, written. -/
theorem rowW_set (h : (rowW T W (.slice (some ⟨g, 0, none⟩) n c) n xs).P w o) (k : Nat) (u : Value) : (rowW T W (.slice (some ⟨g, 0, none⟩) n c) n (xs.set k u)).P (w.setCell ⟨g, k, none⟩ u) o ∧ Fol w o (w.setCell ⟨g, k, none⟩ u) o := by
  refine ⟨⟨?_, h.2⟩, ⟨fun k hk => .inl hk, Upd.setCell (S := o) (Upd.refl _ _) (fun _ => (h.2 g).2 rfl) u⟩⟩
  rcases h.1.2 with ⟨h0, _⟩ | ⟨g', c', cur, he, hb, hB, h1, h2, h3, h4⟩
  · cases h0
  · cases he
    refine ⟨by rw [List.length_set]; exact h.1.1, .inr ⟨g, c, _, rfl, hb, Blk.set hB k u, h1, h2, by simpa using h3, ?_⟩⟩
    rw [← h4]
    simp only [Array.toList_setIfInBounds, List.take_set]
theorem rowW_start {l : List Comp} (T : TypeId) (W : Nat) (h : Made w0 w l) : Made w0 w (rowW T W (.slice none 0 0) 0 [] :: l) :=
  h.more (C := rowW T W (.slice none 0 0) 0 []) (o := fun _ => False) ⟨ownsRow_nil _ _ _ _, fun k => ⟨fun h => h.elim, fun h => by simp [Value.ownBlock] at h⟩⟩ (fun _ h => h.elim) (Upd.refl _ _)
/-- What an append leaves. -/
theorem rowW_push {v' : Value} {ys : List Value} {n' : Nat} {w1 w2 : World} (h : (rowW T W v n xs).P w o) (hx : Upd Nowhere w w1) (ho : w2.ownsRow 0 T W v' n' ys) (hu : Upd (fun k => v.ownBlock = some k) w1 w2) (hn : OwnOrNew w1 v v') :
    (rowW T W v' n' ys).P w2 (fun k => v'.ownBlock = some k) ∧ Fol w o w2 (fun k => v'.ownBlock = some k) :=
  ⟨⟨ho, fun _ => Iff.rfl⟩, ⟨fun k hk => (hn k hk).imp (fun h9 => (h.2 k).2 h9) (fun h9 => Nat.le_trans hx.size h9), (hx.any _).trans hu (fun k _ hk => (h.2 k).2 hk)⟩⟩
end
end Go.Proofs.YtjbaibnmbeabnaaGreatDoor
