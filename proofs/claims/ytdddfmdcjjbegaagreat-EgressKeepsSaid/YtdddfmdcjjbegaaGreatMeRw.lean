/- EgRow, one behind the other. -/
import Derived.Test.YtdddfmdcjjbegaaGreatMeP
import Derived.BigQuiet
import Derived.OwnWalk
namespace Go.Proofs.YtdddfmdcjjbegaaGreat.Egs
open Go.RowKit Go.Proofs BigFrame
abbrev TI64 : TypeId := 2
abbrev TInt : TypeId := 3
theorem infoI64 : (Tryz.prog.info? TI64).map (fun i => (i.zero, i.size, i.bytes)) = some (some (.int .i64 0), 1, 8) := by kernel_rfl
theorem infoInt : (Tryz.prog.info? TInt).map (fun i => (i.zero, i.size, i.bytes)) = some (some (.int .i64 0), 1, 8) := by kernel_rfl
theorem made_list (n : Nat) (z : Value) : (madeCells #[z] (n * 1)).toList = List.replicate n z := by
  apply List.ext_getElem?
  intro i
  rw [List.getElem?_replicate]
  by_cases h : i < n
  · rw [if_pos h]; simp [madeCells, Nat.mod_one, h]
  · rw [if_neg h, List.getElem?_eq_none (by simp [madeCells]; omega)]
/-- A row of ints. -/
def rowC1 (T : TypeId) (g k : Nat) (xs : List Value) : Comp := rowW T 1 (.slice (some ⟨g, 0, none⟩) k k) k xs
section
variable {w0 w w' : World} {l : List Comp} {g k : Nat} {T : TypeId} {xs : List Value}
theorem r_made (h : Made w0 w l) (hu : Upd Nowhere w w') (ho : w'.ownsRow w.heap.size T 1 (.slice (some ⟨w.heap.size, 0, none⟩) k k) k (madeCells (Value.int .i64 0).cells (k * 1)).toList) : Made w0 w' (rowC1 T w.heap.size k (List.replicate k (.int .i64 0)) :: l) := by
  refine h.more (C := rowC1 T w.heap.size k (List.replicate k (.int .i64 0))) (o := fun q => q = w.heap.size) ⟨?_, fun q => ⟨fun h => by rw [h]; rfl, fun h => (Option.some.inj h).symm⟩⟩ (fun q hq => by rw [hq]; exact Nat.le_refl _) hu
  have e : (madeCells (Value.int .i64 0).cells (k * 1)).toList = List.replicate k (Value.int .i64 0) := by
    show (madeCells #[.int .i64 0] (k * 1)).toList = _
    rw [made_list]
  rw [← e]
  exact ownsRow_base ho (Nat.zero_le _)
theorem r_at (l1 l2 : List Comp) (h : Made w0 w (l1 ++ rowC1 T g k xs :: l2)) {i : Nat} {x : Value} (hx : xs[i]? = some x) : w.cell? ⟨g, i, none⟩ = some x ∧ w.frozen? ⟨g, i, none⟩ = false := by
  obtain ⟨o, h1, _, _⟩ := Made.foc _ _ _ h
  exact rowW_cell h1 hx
theorem r_len (l1 l2 : List Comp) (h : Made w0 w (l1 ++ rowC1 T g k xs :: l2)) : xs.length = k := by
  obtain ⟨o, h1, _, _⟩ := Made.foc _ _ _ h
  have := rowW_len h1
  omega
theorem r_set (l1 l2 : List Comp) (h : Made w0 w (l1 ++ rowC1 T g k xs :: l2)) (i : Nat) (x : Value) : Made w0 (w.setCell ⟨g, i, none⟩ x) (l1 ++ rowC1 T g k (xs.set i x) :: l2) := by
  obtain ⟨o, h1, _, h3⟩ := Made.foc _ _ _ h
  obtain ⟨a1, a2⟩ := rowW_set h1 i x
  exact h3 _ o (rowC1 T g k (xs.set i x)) a1 a2
end
/-- Credits in a row: those of the first k classes. -/
def Hv (E : Eg) (n k : Nat) (xs : List Value) : Prop := xs.length = n ∧ ∀ (j kb : Nat) (cf : First.Cf) (s : Cs), j < k → E.q[j]? = some (kb, cf, s) → xs[j]? = some (.int .i64 s.hv)
theorem Hv.start (E : Eg) (n : Nat) : Hv E n 0 (List.replicate n (.int .i64 0)) := ⟨List.length_replicate, fun j _ _ _ h => by omega⟩
theorem Hv.step {E : Eg} {n k kb : Nat} {cf : First.Cf} {s : Cs} {xs : List Value} (h : Hv E n k xs) (hk : k < n) (hq : E.q[k]? = some (kb, cf, s)) : Hv E n (k + 1) (xs.set k (.int .i64 s.hv)) := by
  refine ⟨by rw [List.length_set]; exact h.1, fun j kb' cf' s' hj hq' => ?_⟩
  rw [List.getElem?_set]
  by_cases hjk : k = j
  · subst hjk
    rw [hq] at hq'
    cases hq'
    rw [if_pos rfl, if_pos (by rw [h.1]; exact hk)]
  · rw [if_neg hjk]
    exact h.2 j kb' cf' s' (by omega) hq'
/-- Numbers in a row. -/
def nums (l : List Nat) : List Value := l.map fun (x : Nat) => Value.int .i64 (x : Nat)
theorem nums_at {l : List Nat} {i x : Nat} (h : l[i]? = some x) : (nums l)[i]? = some (.int .i64 (x : Nat)) := by unfold nums; rw [List.getElem?_map, h]; rfl
theorem nums_set (l : List Nat) (i x : Nat) : (nums l).set i (.int .i64 (x : Nat)) = nums (l.set i x) := by unfold nums; rw [List.map_set]
theorem nums_zero (n : Nat) : List.replicate n (Value.int .i64 0) = nums (List.replicate n 0) := by unfold nums; rw [List.map_replicate]; rfl
/-- Two rows are two blocks. -/
theorem r_ne {w0 w : World} {A : Comp} {l : List Comp} {T T' : TypeId} {g g' k k' : Nat} {xs ys : List Value} (h : Made w0 w (A :: rowC1 T g k xs :: rowC1 T' g' k' ys :: l)) : ¬ g = g' := by
  obtain ⟨own, ⟨o, o', h1, ⟨o2, o2', h2, h3, h4⟩, h5, h6⟩, _⟩ := h.drop
  intro he
  have e1 : o g := (h1.2 g).2 rfl
  have e2 : o2 g := (h2.2 g).2 (by rw [he]; rfl)
  exact h5 g e1 ((h4.2 g).2 (.inl e2))
end Go.Proofs.YtdddfmdcjjbegaaGreat.Egs
