/- Rows among what was made: one that grows, one more, what one says. No program in sight. -/
import Derived.Test.YtjbaibnmbeabnaaGreatDoorMade
import Derived.Test.YtjbaibnmbeabnaaGreatDoorSepRow
namespace Go.Proofs.YtjbaibnmbeabnaaGreatDoor
open Go.RowKit
/-- A row of numbers, in memory. -/
def rowN (l : List Nat) : List Value := l.map (fun (i : Nat) => Value.int .i64 i)
theorem rowN_len (l : List Nat) : (rowN l).length = l.length := List.length_map ..
theorem rowN_at {l : List Nat} {k i : Nat} (h : l[k]? = some i) : (rowN l)[k]? = some (.int .i64 (i : Nat)) := by unfold rowN; rw [List.getElem?_map, h]; rfl
theorem rowN_app (l m : List Nat) : rowN (l ++ m) = rowN l ++ rowN m := List.map_append ..
section
variable {A B C D E : Comp} {l : List Comp}
theorem mem0 : A ∈ A :: l := List.mem_cons_self ..
theorem mem1 : A ∈ B :: A :: l := List.mem_cons_of_mem _ mem0
theorem mem2 : A ∈ B :: C :: A :: l := List.mem_cons_of_mem _ mem1
theorem mem3 : A ∈ B :: C :: D :: A :: l := List.mem_cons_of_mem _ mem2
end
section
variable {w0 w w1 w' : World} {T : TypeId} {W n n' : Nat} {v v' : Value} {xs ys : List Value}
theorem Sep.has' {w : World} {C : Comp} : ∀ {l : List Comp} {own : Nat → Prop}, Sep w l own → C ∈ l → ∃ o, C.P w o ∧ ∀ k, o k → own k
  | _ :: _, _, ⟨o, o', h1, h2, _, h4⟩, hC => by
    rcases List.mem_cons.1 hC with rfl | hC
    · exact ⟨o, h1, fun k hk => (h4 k).2 (.inl hk)⟩
    · obtain ⟨o2, a1, a2⟩ := Sep.has' h2 hC
      exact ⟨o2, a1, fun k hk => (h4 k).2 (.inr (a2 k hk))⟩
theorem m_has {l : List Comp} {C : Comp} (h : Made w0 w l) (hC : C ∈ l) : ∃ o, C.P w o := by
  obtain ⟨own, hs, _⟩ := h
  obtain ⟨o, h1, _⟩ := Sep.has' hs hC
  exact ⟨o, h1⟩
theorem m_own {l : List Comp} (h : Made w0 w l) (hC : rowW T W v n xs ∈ l) : w.ownsRow 0 T W v n xs := by
  obtain ⟨o, h1⟩ := m_has h hC
  exact h1.1
theorem m_cell {l : List Comp} {g c k : Nat} {u : Value} (h : Made w0 w l) (hC : rowW T W (.slice (some ⟨g, 0, none⟩) n c) n xs ∈ l) (hu : xs[k]? = some u) : w.cell? ⟨g, k, none⟩ = some u := by
  obtain ⟨o, h1⟩ := m_has h hC
  exact (rowW_cell h1 hu).1
theorem m_arr {l : List Comp} (h : Made w0 w l) (hC : rowW T W v n xs ∈ l) (hn : 0 < n) : ∃ g c, v = .slice (some ⟨g, 0, none⟩) n c := by
  obtain ⟨o, h1⟩ := m_has h hC
  exact rowW_arr h1 hn
theorem row_form (h : w.ownsRow 0 T W v n xs) : ∃ ad c, v = .slice ad n c := by
  rcases h.2 with ⟨rfl, h0⟩ | ⟨g, c, cur, rfl, _⟩
  · exact ⟨none, 0, by rw [h0]⟩
  · exact ⟨_, c, rfl⟩
theorem m_drop1 {A C : Comp} {l : List Comp} (h : Made w0 w (A :: C :: l)) : Made w0 w (A :: l) := (h.perm (List.Perm.swap C A l)).drop
/-- A row that grows. -/
theorem m_row (Q1 Q2 : List Comp) (h : Made w0 w (Q1 ++ rowW T W v n xs :: Q2)) (hx : Upd Nowhere w w1) (ho : w'.ownsRow 0 T W v' n' ys) (hu : Upd (fun k => v.ownBlock = some k) w1 w') (hn : OwnOrNew w1 v v') : Made w0 w' (Q1 ++ rowW T W v' n' ys :: Q2) := by
  obtain ⟨o, h1, _, h3⟩ := Made.foc _ _ _ h
  obtain ⟨a1, a2⟩ := rowW_push h1 hx ho hu hn
  exact h3 w' _ _ a1 a2
/-- One more. -/
theorem m_more {l : List Comp} (h : Made w0 w l) (ho : w'.ownsRow w.heap.size T W v n xs) (hu : Upd Nowhere w w') : Made w0 w' (rowW T W v n xs :: l) :=
  h.more (C := rowW T W v n xs) (o := fun k => v.ownBlock = some k) ⟨ownsRow_base ho (Nat.zero_le _), fun _ => Iff.rfl⟩ (fun k hk => (ho.lt k hk).1) hu
theorem m_nil {l : List Comp} (h : Made w0 w l) (T : TypeId) (W : Nat) : Made w0 w (rowW T W (.slice none 0 0) 0 [] :: l) := m_more h (World.ownsRow_nil _ _ _ _) (Upd.refl _ _)
/-- It is new. -/
theorem m_base (Q1 Q2 : List Comp) (h : Made w0 w (Q1 ++ rowW T W v n xs :: Q2)) : w.ownsRow w0.heap.size T W v n xs := by
  obtain ⟨o, h1, h2, _⟩ := Made.foc _ _ _ h
  obtain ⟨e1, e2⟩ := h1.1
  refine ⟨e1, ?_⟩
  rcases e2 with e2 | ⟨g, cap, cur, rfl, _, h3⟩
  · exact .inl e2
  · exact .inr ⟨g, cap, cur, rfl, h2 g ((h1.2 g).2 rfl), h3⟩
/-- What an append reads of it. -/
theorem row_src (h : w.ownsRow 0 T W v n xs) : ∃ ad c, v = .slice ad n c ∧ (ad = none → n = 0 ∧ c = 0) ∧ ∀ b, ad = some b → ∀ j u, xs[j]? = some u → w.cell? (b.add j) = some u := by
  rcases id h.2 with ⟨rfl, h0⟩ | ⟨g, c, cur, rfl, _⟩
  · exact ⟨none, 0, by rw [h0], fun _ => ⟨h0, rfl⟩, fun b hb => (by cases hb)⟩
  · refine ⟨_, c, rfl, fun hn => (by cases hn), fun b hb j u hu => ?_⟩
    cases hb
    rw [add_at, Nat.zero_add]
    exact (rowW_cell (o := fun k => some g = some k) ⟨h, fun _ => Iff.rfl⟩ hu).1
end
end Go.Proofs.YtjbaibnmbeabnaaGreatDoor
