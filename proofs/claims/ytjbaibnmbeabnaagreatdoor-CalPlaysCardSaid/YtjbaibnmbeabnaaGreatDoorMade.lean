/- Things that were made since a world, each at blocks of its own; rows of what is done. No program in sight. -/
import Derived.Test.YtjbaibnmbeabnaaGreatDoorSep
import Derived.Test.YtjbaibnmbeabnaaGreatDoorLaws
import Derived.Test.YtjbaibnmbeabnaaGreatDoorCells
namespace Go.Proofs.YtjbaibnmbeabnaaGreatDoor
open Go.RowKit
/-- Things that were made since w0, off each other. -/
def Made (w0 w : World) (l : List Comp) : Prop := ∃ own, Sep w l own ∧ (∀ k, own k → w0.heap.size ≤ k) ∧ Upd Nowhere w0 w
section
variable {w0 w w' : World} {l : List Comp}
theorem Made.start (w : World) : Made w w [] := ⟨_, Sep.nil w, fun _ h => h.elim, Upd.refl _ _⟩
theorem Made.old (h : Made w0 w l) (hu : Upd Nowhere w w') : Made w0 w' l := by
  obtain ⟨own, h1, h2, h3⟩ := h
  exact ⟨own, h1.old hu, h2, h3.trans hu (fun _ _ h => h)⟩
theorem Made.upd (h : Made w0 w l) : Upd Nowhere w0 w := by obtain ⟨_, _, _, h3⟩ := h; exact h3
theorem Made.more (h : Made w0 w l) {C : Comp} {o : Nat → Prop} (hC : C.P w' o) (ho : ∀ k, o k → w.heap.size ≤ k) (hu : Upd Nowhere w w') : Made w0 w' (C :: l) := by
  obtain ⟨own, h1, h2, h3⟩ := h
  exact ⟨_, h1.more hu hC ho, fun k hk => hk.elim (fun h => Nat.le_trans h3.size (ho k h)) (h2 k), h3.trans hu (fun _ _ h => h)⟩
theorem Made.drop {C : Comp} (h : Made w0 w (C :: l)) : Made w0 w l := by
  obtain ⟨own, ⟨o, o', h1, h4, h5, h6⟩, h2, h3⟩ := h
  exact ⟨o', h4, fun k hk => h2 k ((h6 k).2 (.inr hk)), h3⟩
theorem Made.perm {l' : List Comp} (h : Made w0 w l) (hp : l.Perm l') : Made w0 w l' := by
  obtain ⟨own, h1, h2, h3⟩ := h
  exact ⟨own, h1.perm hp, h2, h3⟩
theorem Made.foc (C : Comp) (l2 l1 : List Comp) (h : Made w0 w (l1 ++ C :: l2)) :
    ∃ o, C.P w o ∧ (∀ k, o k → w0.heap.size ≤ k) ∧ ∀ (w' : World) (o' : Nat → Prop) (C' : Comp), C'.P w' o' → Fol w o w' o' → Made w0 w' (l1 ++ C' :: l2) := by
  obtain ⟨own, h1, h2, h3⟩ := h
  obtain ⟨o, a1, a2, a3⟩ := Sep.foc C l2 l1 h1
  refine ⟨o, a1, fun k hk => h2 k (a2 k hk), fun w' o' C' hC hf => ?_⟩
  obtain ⟨own', b1, b2⟩ := a3 w' o' C' hC hf
  exact ⟨own', b1, fun k hk => (b2.at_ k hk).elim (h2 k) (fun h4 => Nat.le_trans h3.size h4), h3.trans b2.upd (fun k hlt hk => absurd (h2 k hk) (Nat.not_le.2 hlt))⟩
end
namespace Cal
def act (a : Nat × Nat × Int) : List Value := [.int .u8 a.1, .int .u64 a.2.1, .int .i64 a.2.2]
theorem act_at {l : List (Nat × Nat × Int)} {k : Nat} {a : Nat × Nat × Int} (h : l[k]? = some a) {j : Nat} {v : Value} (hv : (act a)[j]? = some v) : (l.flatMap act)[k * 3 + j]? = some v := by
  induction l generalizing k with
  | nil => simp at h
  | cons x r ih =>
    rw [List.flatMap_cons]
    have hx : (act x).length = 3 := rfl
    cases k with
    | zero =>
      simp only [List.getElem?_cons_zero] at h; cases h
      have hj : j < 3 := by
        rcases Nat.lt_or_ge j 3 with h' | h'
        · exact h'
        · rw [List.getElem?_eq_none (by rw [hx]; exact h')] at hv; cases hv
      rw [Nat.zero_mul, Nat.zero_add, List.getElem?_append_left (by rw [hx]; exact hj)]; exact hv
    | succ k =>
      simp only [List.getElem?_cons_succ] at h
      rw [List.getElem?_append_right (by rw [hx]; omega), hx, show (k + 1) * 3 + j - 3 = k * 3 + j by omega]
      exact ih h
/-- What is done, in memory. -/
structure Acts (w : World) (ad : Option Addr) (l : List (Nat × Nat × Int)) : Prop where
  none : ad = Option.none → l.length = 0
  at_ : ∀ b, ad = some b → ∀ (j : Nat) (v : Value), (l.flatMap act)[j]? = some v → b.spot = Option.none ∧ w.cell? ⟨b.block, b.off + j, Option.none⟩ = some v
theorem Acts.get {w wB : World} {ad : Option Addr} {l : List (Nat × Nat × Int)} (h : Acts w ad l) (hu : Upd Nowhere w wB) {k K R : Nat} {X : Int} (hx : l[k]? = some (K, R, X)) : ∃ ga oa, ad = some ⟨ga, oa, Option.none⟩ ∧
    wB.cell? ⟨ga, oa + k * 3, Option.none⟩ = some (.int .u8 K) ∧ wB.cell? ⟨ga, oa + k * 3 + 1, Option.none⟩ = some (.int .u64 R) ∧ wB.cell? ⟨ga, oa + k * 3 + 2, Option.none⟩ = some (.int .i64 X) ∧
    wB.cell? ⟨ga, oa + (k * 3 + 1), Option.none⟩ = some (.int .u64 R) ∧ wB.cell? ⟨ga, oa + (k * 3 + 2), Option.none⟩ = some (.int .i64 X) := by
  have hlt : k < l.length := by
    rcases Nat.lt_or_ge k l.length with h' | h'
    · exact h'
    · rw [List.getElem?_eq_none h'] at hx; cases hx
  cases ad with
  | none => have := h.none rfl; omega
  | some b =>
    have hs := (h.at_ b rfl _ _ (act_at hx (j := 0) rfl)).1
    obtain ⟨g, o, sp⟩ := b
    simp only at hs
    subst hs
    have r0 := cell_old hu (h.at_ _ rfl _ _ (act_at hx (j := 0) rfl)).2
    have r1 := cell_old hu (h.at_ _ rfl _ _ (act_at hx (j := 1) rfl)).2
    have r2 := cell_old hu (h.at_ _ rfl _ _ (act_at hx (j := 2) rfl)).2
    exact ⟨g, o, rfl, r0, by rw [Nat.add_assoc]; exact r1, by rw [Nat.add_assoc]; exact r2, r1, r2⟩
end Cal
end Go.Proofs.YtjbaibnmbeabnaaGreatDoor
