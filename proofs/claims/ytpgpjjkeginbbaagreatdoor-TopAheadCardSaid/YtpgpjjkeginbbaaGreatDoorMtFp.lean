/- HeapMatch, one behind the other. -/
import Derived.Test.YtpgpjjkeginbbaaGreatDoorMtA
namespace Go.Proofs.YtpgpjjkeginbbaaGreatDoor.Heap
/-- The list s has the heap's entries in order. -/
structure Mt (came : Nat) (l s : List (Ent Int)) : Prop where
 perm : s.Perm l
 ord : s.Pairwise (fun a b => ahd a b = true)
 old : ∀ e ∈ s, e.2.1 < came
theorem Mt.nil : Mt 0 [] [] := ⟨List.Perm.refl _, List.Pairwise.nil, fun e h => by cases h⟩
theorem Mt.len {came : Nat} {l s : List (Ent Int)} (h : Mt came l s) : s.length = l.length := h.perm.length_eq
theorem Mt.head {came : Nat} {l s : List (Ent Int)} {a : Ent Int} (h : Mt came l (a :: s)) (hh : IsHeap l) : l[0]? = some a := by
 cases l with
 | nil => have := h.len; simp at this
 | cons b r =>
   have hb : b ∈ a :: s := h.perm.mem_iff.2 List.mem_cons_self
   rcases List.mem_cons.1 hb with rfl | hb
   · rfl
   · have h1 := (List.pairwise_cons.1 h.ord).1 b hb
     have h2 := heap_least hh (a := b) rfl a (h.perm.mem_iff.1 List.mem_cons_self)
     rw [h1] at h2; cases h2
theorem Mt.pop {came : Nat} {l s : List (Ent Int)} {a : Ent Int} (h : Mt came l (a :: s)) (hh : IsHeap l) : Mt came (popL l) s := by
 have h0 := h.head hh
 cases l with
 | nil => cases h0
 | cons b r =>
   obtain rfl := Option.some.inj h0
   exact ⟨(List.perm_cons _).1 h.perm |>.trans (pop_perm b r).symm, (List.pairwise_cons.1 h.ord).2, fun e he => h.old e (List.mem_cons_of_mem _ he)⟩
theorem Mt.none {came : Nat} {l : List (Ent Int)} (h : Mt came l []) : l = [] := by
 have := h.len; cases l with | nil => rfl | cons a r => simp at this
end Go.Proofs.YtpgpjjkeginbbaaGreatDoor.Heap

