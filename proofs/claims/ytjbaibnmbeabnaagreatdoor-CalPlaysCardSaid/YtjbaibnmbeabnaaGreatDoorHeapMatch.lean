/- A heap and the sorted list of the same entries. No program in sight. -/
import Derived.Test.YtjbaibnmbeabnaaGreatDoorHeapPlain
import Derived.Test.YtjbaibnmbeabnaaGreatDoorPcs
namespace Go.Proofs.YtjbaibnmbeabnaaGreatDoor.Heap
/-- An item: an entry without when it came. -/
def itm (e : Ent Int) : Nat × Int := (e.1, e.2.2)
/-- The items of entries. -/
def itms (s : List (Ent Int)) : List (Nat × Int) := s.map itm
theorem itms_len (s : List (Ent Int)) : (itms s).length = s.length := by simp [itms]
/-- The list s has the heap's entries in order. -/
structure Mt (came : Nat) (l s : List (Ent Int)) : Prop where
  perm : s.Perm l
  ord : s.Pairwise (fun a b => ahd a b = true)
  old : ∀ e ∈ s, e.2.1 < came
theorem Mt.nil : Mt 0 [] [] := ⟨List.Perm.refl _, List.Pairwise.nil, fun e h => by cases h⟩
theorem Mt.len {came : Nat} {l s : List (Ent Int)} (h : Mt came l s) : s.length = l.length := h.perm.length_eq
/-- An entry comes in behind all that are not above it. -/
def insE (p : Ent Int) : List (Ent Int) → List (Ent Int)
  | [] => [p]
  | a :: r => if p.1 < a.1 then p :: a :: r else a :: insE p r
theorem insE_perm (p : Ent Int) (l : List (Ent Int)) : (insE p l).Perm (p :: l) := by
  induction l with
  | nil => exact List.Perm.refl _
  | cons a r ih =>
    unfold insE
    split
    · exact List.Perm.refl _
    · exact (ih.cons a).trans (List.Perm.swap p a r)
theorem itms_ins (p : Ent Int) (l : List (Ent Int)) : itms (insE p l) = insR (itm p) (itms l) := by
  induction l with
  | nil => rfl
  | cons a r ih =>
    unfold itms at ih ⊢
    simp only [insE, List.map_cons, insR]
    by_cases h : p.1 < a.1
    · rw [if_pos h, if_pos (show (itm p).1 < (itm a).1 from h)]; rfl
    · rw [if_neg h, if_neg (show ¬ (itm p).1 < (itm a).1 from h), List.map_cons, ih]
theorem insE_ord (p : Ent Int) (l : List (Ent Int)) (ho : l.Pairwise (fun a b => ahd a b = true)) (hp : ∀ e ∈ l, e.2.1 < p.2.1) : (insE p l).Pairwise (fun a b => ahd a b = true) := by
  induction l with
  | nil => simp [insE]
  | cons a r ih =>
    unfold insE
    have ho' := List.pairwise_cons.1 ho
    split
    · rename_i h
      refine List.pairwise_cons.2 ⟨fun e he => ?_, ho⟩
      rcases List.mem_cons.1 he with rfl | he
      · exact ahd_iff.2 (.inl h)
      · have := ahd_iff.1 (ho'.1 e he); exact ahd_iff.2 (by omega)
    · rename_i h
      refine List.pairwise_cons.2 ⟨fun e he => ?_, ih ho'.2 (fun e he => hp e (List.mem_cons_of_mem _ he))⟩
      rcases List.mem_cons.1 ((insE_perm p r).mem_iff.1 he) with rfl | he
      · have := hp a List.mem_cons_self; exact ahd_iff.2 (by omega)
      · exact ho'.1 e he
theorem Mt.push {came : Nat} {l s : List (Ent Int)} (h : Mt came l s) (x : Nat) (y : Int) : Mt (came + 1) (pushL l (x, came, y)) (insE (x, came, y) s) := by
  refine ⟨((insE_perm _ _).trans (h.perm.cons _)).trans (push_perm l _).symm, insE_ord _ _ h.ord h.old, fun e he => ?_⟩
  rcases List.mem_cons.1 ((insE_perm _ _).mem_iff.1 he) with rfl | he
  · exact Nat.lt_succ_self _
  · exact Nat.lt_succ_of_lt (h.old e he)
theorem Mt.head {came : Nat} {l s : List (Ent Int)} {a : Ent Int} (h : Mt came l (a :: s)) (hh : IsHeap l) : l[0]? = some a := by
  cases l with
  | nil => have := h.len; simp at this
  | cons b r =>
    have hb : b ∈ a :: s := h.perm.mem_iff.2 List.mem_cons_self
    rcases List.mem_cons.1 hb with rfl | hb
    · rfl
    · have h1 := (List.pairwise_cons.1 h.ord).1 b hb
      have h2 := heap_least hh (a := b) rfl a (h.perm.mem_iff.1 List.mem_cons_self)
      rw [h1] at h2; cases h2
theorem Mt.pop {came : Nat} {l s : List (Ent Int)} {a : Ent Int} (h : Mt came l (a :: s)) (hh : IsHeap l) : Mt came (popL l) s := by
  have h0 := h.head hh
  cases l with
  | nil => cases h0
  | cons b r =>
    obtain rfl := Option.some.inj h0
    exact ⟨(List.perm_cons _).1 h.perm |>.trans (pop_perm b r).symm, (List.pairwise_cons.1 h.ord).2, fun e he => h.old e (List.mem_cons_of_mem _ he)⟩
theorem Mt.none {came : Nat} {l : List (Ent Int)} (h : Mt came l []) : l = [] := by
  have := h.len; cases l with | nil => rfl | cons a r => simp at this
end Go.Proofs.YtjbaibnmbeabnaaGreatDoor.Heap
