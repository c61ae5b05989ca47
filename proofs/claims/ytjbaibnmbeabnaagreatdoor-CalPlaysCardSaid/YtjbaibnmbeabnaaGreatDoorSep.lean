/- Things in memory, each at blocks of its own, off each other. No program in sight. -/
import Derived.Test.YtjbaibnmbeabnaaGreatDoorBase
namespace Go.Proofs.YtjbaibnmbeabnaaGreatDoor
open Go.RowKit
/-- A thing in memory: what holds of a world and of the thing's blocks; it is kept where nobody writes to these. -/
structure Comp where
  P : World → (Nat → Prop) → Prop
  kp : ∀ {w w' : World} {o S : Nat → Prop}, P w o → Upd S w w' → (∀ k, o k → ¬ S k) → P w' o
  lt : ∀ {w : World} {o : Nat → Prop} {k : Nat}, P w o → o k → k < w.heap.size
/-- Things off each other, at the blocks own. -/
def Sep (w : World) : List Comp → (Nat → Prop) → Prop
  | [], own => ∀ k, ¬ own k
  | C :: l, own => ∃ o o', C.P w o ∧ Sep w l o' ∧ (∀ k, o k → ¬ o' k) ∧ ∀ k, own k ↔ o k ∨ o' k
theorem Sep.kp {w w' : World} {S : Nat → Prop} (hu : Upd S w w') : ∀ {l : List Comp} {own : Nat → Prop}, Sep w l own → (∀ k, own k → ¬ S k) → Sep w' l own
  | [], _, h, _ => h
  | C :: _, _, ⟨o, o', h1, h2, h3, h4⟩, hS => ⟨o, o', C.kp h1 hu (fun k hk => hS k ((h4 k).2 (.inl hk))), Sep.kp hu h2 (fun k hk => hS k ((h4 k).2 (.inr hk))), h3, h4⟩
theorem Sep.lt {w : World} : ∀ {l : List Comp} {own : Nat → Prop} {k : Nat}, Sep w l own → own k → k < w.heap.size
  | [], _, _, h, hk => absurd hk (h _)
  | C :: _, _, k, ⟨_, _, h1, h2, _, h4⟩, hk => ((h4 k).1 hk).elim (C.lt h1) (Sep.lt h2)
theorem Sep.old {w w' : World} {l : List Comp} {own : Nat → Prop} (h : Sep w l own) (hu : Upd Nowhere w w') : Sep w' l own := h.kp hu (fun _ _ h => h)
/-- They are one thing. -/
def sepC (l : List Comp) : Comp := ⟨fun w o => Sep w l o, fun h hu hS => Sep.kp hu h hS, fun h hk => Sep.lt h hk⟩
/-- One of them: what becomes of all if it alone is turned. -/
theorem Sep.focus {w : World} (C : Comp) (l2 : List Comp) : ∀ (l1 : List Comp) {own : Nat → Prop}, Sep w (l1 ++ C :: l2) own →
    ∃ o, C.P w o ∧ (∀ k, o k → own k) ∧ ∀ (w' : World) (o' : Nat → Prop) (C' : Comp), C'.P w' o' → (∀ k, o' k → o k ∨ w.heap.size ≤ k) → Upd o w w' →
      ∃ own', Sep w' (l1 ++ C' :: l2) own' ∧ (∀ k, own' k → own k ∨ w.heap.size ≤ k) ∧ Upd own w w'
  | [], _, ⟨o, o2, h1, h2, h3, h4⟩ => by
    refine ⟨o, h1, fun k hk => (h4 k).2 (.inl hk), fun w' o' C' hC ho hu => ⟨fun k => o' k ∨ o2 k, ⟨o', o2, hC, h2.kp hu (fun k hk h => h3 k h hk), fun k hk h => ?_, fun _ => Iff.rfl⟩, fun k hk => ?_, hu.mono fun k _ hk => (h4 k).2 (.inl hk)⟩⟩
    · rcases ho k hk with h5 | h5
      · exact h3 k h5 h
      · exact absurd (Sep.lt h2 h) (Nat.not_lt.2 h5)
    · rcases hk with hk | hk
      · exact (ho k hk).imp (fun h => (h4 k).2 (.inl h)) id
      · exact .inl ((h4 k).2 (.inr hk))
  | D :: l1, _, ⟨o1, o2, h1, h2, h3, h4⟩ => by
    obtain ⟨o, a1, a2, a3⟩ := Sep.focus C l2 l1 h2
    refine ⟨o, a1, fun k hk => (h4 k).2 (.inr (a2 k hk)), fun w' o' C' hC ho hu => ?_⟩
    obtain ⟨own', b1, b2, b3⟩ := a3 w' o' C' hC ho hu
    refine ⟨fun k => o1 k ∨ own' k, ⟨o1, own', D.kp h1 hu (fun k hk h => h3 k hk (a2 k h)), b1, fun k hk h => ?_, fun _ => Iff.rfl⟩, fun k hk => ?_, b3.mono fun k _ hk => (h4 k).2 (.inr hk)⟩
    · rcases b2 k h with h5 | h5
      · exact h3 k hk h5
      · exact absurd (D.lt h1 hk) (Nat.not_lt.2 h5)
    · rcases hk with hk | hk
      · exact .inl ((h4 k).2 (.inl hk))
      · exact (b2 k hk).imp (fun h => (h4 k).2 (.inr h)) id
/-- What a call leaves of the blocks own: nothing else is written, and what is own then was own, or is new. -/
structure Fol (w : World) (own : Nat → Prop) (w' : World) (own' : Nat → Prop) : Prop where
  at_ : ∀ k, own' k → own k ∨ w.heap.size ≤ k
  upd : Upd own w w'
theorem Fol.refl (w : World) (own : Nat → Prop) : Fol w own w own := ⟨fun _ h => .inl h, Upd.refl _ _⟩
theorem Fol.trans {w w1 w2 : World} {o o1 o2 : Nat → Prop} (h : Fol w o w1 o1) (h' : Fol w1 o1 w2 o2) : Fol w o w2 o2 :=
  ⟨fun k hk => (h'.at_ k hk).elim (h.at_ k) (fun h2 => .inr (Nat.le_trans h.upd.size h2)), h.upd.trans h'.upd (fun k hlt hk => (h.at_ k hk).elim id (fun h2 => absurd hlt (Nat.not_lt.2 h2)))⟩
theorem Fol.old {w w1 w2 : World} {o o1 : Nat → Prop} (h : Fol w o w1 o1) (hu : Upd Nowhere w1 w2) : Fol w o w2 o1 := h.trans ⟨fun _ h => .inl h, hu.any _⟩
theorem Fol.drewN {w w1 : World} {o o1 : Nat → Prop} (h : Fol w o w1 o1) (n : Nat) : Fol w o (w1.drewN n) o1 := h.old ((Upd.refl _ _).drewN n)
theorem Fol.sub {w w1 : World} {o o1 o2 : Nat → Prop} (h : Fol w o w1 o1) (hs : ∀ k, o2 k → o1 k) : Fol w o w1 o2 := ⟨fun k hk => h.at_ k (hs k hk), h.upd⟩
theorem Sep.foc {w : World} (C : Comp) (l2 l1 : List Comp) {own : Nat → Prop} (h : Sep w (l1 ++ C :: l2) own) :
    ∃ o, C.P w o ∧ (∀ k, o k → own k) ∧ ∀ (w' : World) (o' : Nat → Prop) (C' : Comp), C'.P w' o' → Fol w o w' o' → ∃ own', Sep w' (l1 ++ C' :: l2) own' ∧ Fol w own w' own' := by
  obtain ⟨o, h1, h2, h3⟩ := Sep.focus C l2 l1 h
  refine ⟨o, h1, h2, fun w' o' C' hC hf => ?_⟩
  obtain ⟨own', a1, a2, a3⟩ := h3 w' o' C' hC hf.at_ hf.upd
  exact ⟨own', a1, ⟨a2, a3⟩⟩
/-- One alone. -/
theorem Sep.one {w : World} {C : Comp} {o : Nat → Prop} (h : C.P w o) : Sep w [C] o := ⟨o, fun _ => False, h, fun _ h => h, fun _ _ h => h, fun _ => ⟨.inl, fun h => h.elim id False.elim⟩⟩
/-- One more. -/
theorem Sep.more {w w' : World} {l : List Comp} {own o : Nat → Prop} {C : Comp} (h : Sep w l own) (hu : Upd Nowhere w w') (hC : C.P w' o) (ho : ∀ k, o k → w.heap.size ≤ k) : Sep w' (C :: l) (fun k => o k ∨ own k) :=
  ⟨o, own, hC, h.old hu, fun k hk h1 => absurd (h.lt h1) (Nat.not_lt.2 (ho k hk)), fun _ => Iff.rfl⟩
/-- In any order. -/
theorem Sep.perm {w : World} {l l' : List Comp} (hp : l.Perm l') : ∀ {own : Nat → Prop}, Sep w l own → Sep w l' own := by
  induction hp with
  | nil => exact fun h => h
  | cons C _ ih => exact fun ⟨o, o', h1, h2, h3⟩ => ⟨o, o', h1, ih h2, h3⟩
  | swap C D l =>
    rintro own ⟨o1, o2, h1, ⟨o3, o4, h3, h4, h5, h6⟩, h7, h8⟩
    refine ⟨o3, fun k => o1 k ∨ o4 k, h3, ⟨o1, o4, h1, h4, fun k hk h => h7 k hk ((h6 k).2 (.inr h)), fun _ => Iff.rfl⟩, fun k hk h => ?_, fun k => ?_⟩
    · rcases h with h | h
      · exact h7 k h ((h6 k).2 (.inl hk))
      · exact h5 k hk h
    · rw [h8 k, h6 k]
      constructor
      · rintro (h | h | h)
        · exact .inr (.inl h)
        · exact .inl h
        · exact .inr (.inr h)
      · rintro (h | h | h)
        · exact .inr (.inl h)
        · exact .inl h
        · exact .inr (.inr h)
  | trans _ _ ih1 ih2 => exact fun h => ih2 (ih1 h)
theorem Sep.nil (w : World) : Sep w [] (fun _ => False) := fun _ h => h
/-- A block. -/
def blkC (b : Nat) (c : Array Value) (t : TypeId) : Comp := ⟨fun w o => Blk w b c t ∧ ∀ k, o k ↔ k = b, fun h hu hS => ⟨h.1.kept hu (hS _ ((h.2 _).2 rfl)), h.2⟩, fun h hk => by rw [(h.2 _).1 hk]; exact h.1.lt⟩
end Go.Proofs.YtjbaibnmbeabnaaGreatDoor
