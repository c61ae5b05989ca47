/- aifo, plainly: rising numbers, one more and one less; rows of them. No program in sight. -/
import Derived.Test.YtgppbclgabdkoaaLaws
import Derived.Test.YtgppbclgabdkoaaRingCore
namespace Go.Proofs.Ytgppbclgabdkoaa.Aifo
open Go.RowKit
def us (l : List Int) : List Value := l.map (.int .u64)
theorem us_len (l : List Int) : (us l).length = l.length := by simp [us]
theorem us_at {l : List Int} {i : Nat} {x : Int} (h : l[i]? = some x) : (us l)[i]? = some (.int .u64 x) := by simp [us, h]
theorem us_get (l : List Int) {j : Nat} (h : j < l.length) : (us l)[j]? = some (.int .u64 (l.getD j 0)) := us_at (by rw [List.getD_eq_getElem?_getD]; simp [h])
theorem us_one (l : List Int) : ∀ v ∈ us l, v.oneCell' = true := fun v hv => by
  obtain ⟨x, _, rfl⟩ := List.mem_map.1 hv; rfl
theorem us_take {zs : List Int} {k j : Nat} {v : Value} (h : (us (zs.take k))[j]? = some v) : (us zs)[j]? = some v := by
  unfold us at h ⊢
  rw [List.map_take, List.getElem?_take] at h
  split at h
  · exact h
  · cases h
theorem us_drop {zs : List Int} {k j : Nat} {v : Value} (h : (us (zs.drop k))[j]? = some v) : (us zs)[k + j]? = some v := by
  unfold us at h ⊢
  rw [List.map_drop, List.getElem?_drop] at h
  exact h
/-- A number put in its place. -/
def ins (zs : List Int) (x : Int) : List Int := zs.take (zs.countP (· < x)) ++ x :: zs.drop (zs.countP (· < x))
/-- A number taken out. -/
def del (zs : List Int) (x : Int) : List Int := zs.take (zs.countP (· < x)) ++ zs.drop (zs.countP (· < x) + 1)
theorem parts (x : Int) : ∀ (zs : List Int), zs.Pairwise (· ≤ ·) → zs.take (zs.countP (· < x)) = zs.filter (· < x) ∧ zs.drop (zs.countP (· < x)) = zs.filter (fun z => !decide (z < x))
  | [], _ => ⟨rfl, rfl⟩
  | z :: zs, h => by
    obtain ⟨h1, h2⟩ := List.pairwise_cons.1 h
    obtain ⟨i1, i2⟩ := parts x zs h2
    by_cases hz : z < x
    · rw [List.countP_cons_of_pos (by simpa using hz), List.filter_cons_of_pos (by simpa using hz), List.filter_cons_of_neg (by simp [hz])]
      exact ⟨by rw [List.take_succ_cons, i1], by rw [List.drop_succ_cons, i2]⟩
    · have hall : ∀ y ∈ zs, ¬ y < x := fun y hy => by have := h1 y hy; omega
      have e0 : zs.countP (· < x) = 0 := by rw [List.countP_eq_zero]; intro a ha; simpa using hall a ha
      rw [List.countP_cons_of_neg (by simpa using hz), e0]
      refine ⟨?_, ?_⟩
      · rw [List.take_zero]; symm; rw [List.filter_eq_nil_iff]; intro a ha
        rcases List.mem_cons.1 ha with rfl | ha
        · simpa using hz
        · simpa using hall a ha
      · rw [List.drop_zero]; symm; rw [List.filter_eq_self]; intro a ha
        rcases List.mem_cons.1 ha with rfl | ha
        · simpa using hz
        · simpa using hall a ha
theorem ins_sorted {zs : List Int} {x : Int} (h : zs.Pairwise (· ≤ ·)) : (ins zs x).Pairwise (· ≤ ·) := by
  obtain ⟨h1, h2⟩ := parts x zs h
  unfold ins
  rw [h1, h2, List.pairwise_append]
  refine ⟨h.filter _, List.pairwise_cons.2 ⟨fun y hy => ?_, h.filter _⟩, fun a ha b hb => ?_⟩
  · have := (List.mem_filter.1 hy).2; simp at this; omega
  · have h3 := (List.mem_filter.1 ha).2
    simp at h3
    rcases List.mem_cons.1 hb with rfl | hb
    · omega
    · have := (List.mem_filter.1 hb).2; simp at this; omega
theorem ins_perm (zs : List Int) (x : Int) : (ins zs x).Perm (x :: zs) := by
  unfold ins
  refine List.perm_middle.trans ?_
  rw [List.take_append_drop]
theorem del_sorted {zs : List Int} {x : Int} (h : zs.Pairwise (· ≤ ·)) : (del zs x).Pairwise (· ≤ ·) := by
  refine List.Pairwise.sublist ?_ h
  unfold del
  have e := List.take_append_drop (zs.countP (· < x)) zs
  refine List.Sublist.trans (List.Sublist.append (List.Sublist.refl _) ?_) (by rw [e]; exact List.Sublist.refl _)
  rw [← List.drop_drop]
  exact List.drop_sublist _ _
theorem del_perm {zs : List Int} {x : Int} (h : zs.Pairwise (· ≤ ·)) (hx : x ∈ zs) : zs.Perm (x :: del zs x) := by
  obtain ⟨h1, h2⟩ := parts x zs h
  have e := List.take_append_drop (zs.countP (· < x)) zs
  have hd : ∃ r, zs.drop (zs.countP (· < x)) = x :: r := by
    have hm : x ∈ zs.drop (zs.countP (· < x)) := by rw [h2]; exact List.mem_filter.2 ⟨hx, by simp⟩
    have hs : (zs.drop (zs.countP (· < x))).Pairwise (· ≤ ·) := h.sublist (List.drop_sublist _ _)
    have hge : ∀ y ∈ zs.drop (zs.countP (· < x)), x ≤ y := fun y hy => by
      rw [h2] at hy
      have := (List.mem_filter.1 hy).2; simp at this; omega
    revert hm hs hge
    generalize zs.drop (zs.countP (· < x)) = l
    intro hm hs hge
    cases l with
    | nil => cases hm
    | cons y r =>
      have h3 := hge y (List.mem_cons_self ..)
      rcases List.mem_cons.1 hm with rfl | hm
      · exact ⟨r, rfl⟩
      · have := (List.pairwise_cons.1 hs).1 x hm
        obtain rfl : x = y := by omega
        exact ⟨r, rfl⟩
  obtain ⟨r, hr⟩ := hd
  have hr' : zs.drop (zs.countP (· < x) + 1) = r := by rw [← List.drop_drop, hr]; rfl
  unfold del
  rw [hr']
  have e2 : zs = zs.take (zs.countP (· < x)) ++ x :: r := by rw [← hr, e]
  have e3 : zs.Perm (zs.take (zs.countP (· < x)) ++ x :: r) := by rw [← e2]
  exact e3.trans List.perm_middle
theorem count_in {zs : List Int} {x : Int} (hx : x ∈ zs) : zs.countP (· < x) < zs.length := by
  rcases Nat.lt_or_ge (zs.countP (· < x)) zs.length with h | h
  · exact h
  · have := List.countP_eq_length.1 (Nat.le_antisymm List.countP_le_length h) x hx
    simp at this
/-- Rising numbers in a slice of their own. -/
def Rising (w : World) (v : Value) (rs : List Int) : Prop :=
  (v = .slice none 0 0 ∧ rs = []) ∨ ∃ g c, v = .slice (some ⟨g, 0, none⟩) rs.length c ∧ rs.length ≤ c ∧ g < w.heap.size ∧ ∀ j u, (us rs)[j]? = some u → w.cell? ⟨g, j, none⟩ = some u
/-- A slice's array is new. -/
def NewRow (w : World) (v : Value) : Prop := ∀ k, v.ownBlock = some k → w.heap.size ≤ k
theorem Rising.upd {w w' : World} {v : Value} {rs : List Int} {S : Nat → Prop} (h : Rising w v rs) (hu : Upd S w w') (hs : ∀ k, v.ownBlock = some k → ¬ S k) : Rising w' v rs := by
  rcases h with h | ⟨g, c, rfl, h1, h2, h3⟩
  · exact .inl h
  · refine .inr ⟨g, c, rfl, h1, Nat.lt_of_lt_of_le h2 hu.size, fun j u hj => ?_⟩
    rw [hu.cell j h2 (hs g rfl)]
    exact h3 j u hj
theorem Rising.lt {w : World} {v : Value} {rs : List Int} (h : Rising w v rs) {k : Nat} (hk : v.ownBlock = some k) : k < w.heap.size := by
  rcases h with ⟨rfl, _⟩ | ⟨g, c, rfl, _, h2, _⟩
  · cases hk
  · obtain rfl : g = k := by simpa [Value.ownBlock] using hk
    exact h2
end Go.Proofs.Ytgppbclgabdkoaa.Aifo
