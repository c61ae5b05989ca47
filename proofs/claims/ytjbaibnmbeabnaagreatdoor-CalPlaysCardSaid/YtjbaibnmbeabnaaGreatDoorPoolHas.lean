/- A pool: what waits in each queue. No program in sight. -/
import Derived.Test.YtjbaibnmbeabnaaGreatDoorPoolCore
namespace Go.Proofs.YtjbaibnmbeabnaaGreatDoor.Pool
open Go.RowKit
/-- As many as there are at most. -/
theorem pig : ∀ (m : Nat) (l : List Nat), l.Nodup → (∀ x ∈ l, x < m) → l.length ≤ m
  | 0, l, _, h => by
    cases l with
    | nil => exact Nat.le_refl _
    | cons a t => have := h a (List.mem_cons_self ..); omega
  | m + 1, l, hn, h => by
    have h1 := pig m (l.erase m) (hn.erase m) (fun x hx => by
      have := (hn.mem_erase_iff).1 hx
      have := h x this.2
      omega)
    have h2 : l.length ≤ (l.erase m).length + 1 := by rw [List.length_erase]; split <;> omega
    omega
theorem Pl.lt {α : Type} {S : PS α} {Qn : Nat} {F : List Nat} {Q : Nat → List Nat} {h : Nat} (p : Pl S Qn F Q (some h)) : 0 < S.n := by
  obtain ⟨a1, a2, a3⟩ := p.hel h rfl
  have hnf : h ∉ F := fun hh => by have := (p.fre h hh).2; rw [a2] at this; cases this
  have h1 := pig S.m (h :: F) (List.nodup_cons.2 ⟨hnf, p.fnd⟩) (fun x hx => by
    rcases List.mem_cons.1 hx with rfl | hx
    · exact a1
    · exact (p.fre x hx).1)
  have := p.cnt
  simp at h1
  omega
section
variable {α : Type} {K : α → Value} {TP TC TQ : TypeId} {w w' : World} {pb : Nat} {cv : Value} {qb most Qn n : Nat} {X : Nat → List α}
/-- A pool of n taken handles, all in queues. -/
def HasP (K : α → Value) (TP TC TQ : TypeId) (w : World) (pb : Nat) (cv : Value) (qb most Qn n : Nat) (X : Nat → List α) : Prop :=
  ∃ S F Q, PIn K TP TC TQ w pb cv qb most Qn S ∧ S.n = n ∧ Pl S Qn F Q none ∧ ∀ q, q < Qn → (Q q).map S.x = X q
/-- The same, and one handle that is in none. -/
def HeldP (K : α → Value) (TP TC TQ : TypeId) (w : World) (pb : Nat) (cv : Value) (qb most Qn n : Nat) (X : Nat → List α) (h : Nat) (x : α) : Prop :=
  ∃ S F Q, PIn K TP TC TQ w pb cv qb most Qn S ∧ S.n = n ∧ Pl S Qn F Q (some h) ∧ S.x h = x ∧ ∀ q, q < Qn → (Q q).map S.x = X q
theorem HasP.lts (h : HasP K TP TC TQ w pb cv qb most Qn n X) {k : Nat} (hk : POf pb qb cv k) : k < w.heap.size := by
  obtain ⟨S, F, Q, hp, _⟩ := h; exact hp.lts hk
theorem HasP.kept (h : HasP K TP TC TQ w pb cv qb most Qn n X) {A : Nat → Prop} (hu : Upd A w w') (hs : ∀ k, POf pb qb cv k → ¬ A k) : HasP K TP TC TQ w' pb cv qb most Qn n X := by
  obtain ⟨S, F, Q, hp, hr⟩ := h; exact ⟨S, F, Q, hp.kept hu hs, hr⟩
theorem HasP.off (h : HasP K TP TC TQ w pb cv qb most Qn n X) : cv.ownBlock ≠ some pb ∧ cv.ownBlock ≠ some qb ∧ qb ≠ pb := by
  obtain ⟨S, F, Q, hp, _⟩ := h; exact hp.off
theorem HeldP.kept {x : α} {i : Nat} (h : HeldP K TP TC TQ w pb cv qb most Qn n X i x) {A : Nat → Prop} (hu : Upd A w w') (hs : ∀ k, POf pb qb cv k → ¬ A k) : HeldP K TP TC TQ w' pb cv qb most Qn n X i x := by
  obtain ⟨S, F, Q, hp, hr⟩ := h; exact ⟨S, F, Q, hp.kept hu hs, hr⟩
theorem HasP.congr {X' : Nat → List α} (h : HasP K TP TC TQ w pb cv qb most Qn n X) (hX : ∀ q, q < Qn → X' q = X q) : HasP K TP TC TQ w pb cv qb most Qn n X' := by
  obtain ⟨S, F, Q, hp, h1, h2, h3⟩ := h; exact ⟨S, F, Q, hp, h1, h2, fun q hq => by rw [h3 q hq, hX q hq]⟩
theorem map_congr {S S' : PS α} {Q : Nat → List Nat} (h : ∀ q, q < Qn → ∀ c ∈ Q q, S'.x c = S.x c) (hX : ∀ q, q < Qn → (Q q).map S.x = X q) : ∀ q, q < Qn → (Q q).map S'.x = X q := fun q hq => by
  rw [← hX q hq]; exact List.map_congr_left fun c hc => h q hq c hc
theorem held_new {S : PS α} {Q : Nat → List Nat} {x : α} (p : Pl S Qn [] Q none) (hX : ∀ q, q < Qn → (Q q).map S.x = X q) (h : PIn K TP TC TQ w pb cv qb most Qn (takeS S S.m (S.m + 1) S.free x)) : HeldP K TP TC TQ w pb cv qb most Qn (S.n + 1) X S.m x :=
  ⟨_, _, _, h, rfl, (take_new p x).1, upd_at _ _ _, map_congr (take_new p x).2 hX⟩
theorem held_old {S : PS α} {Q : Nat → List Nat} {b : Nat} {F : List Nat} {x : α} (p : Pl S Qn (b :: F) Q none) (hX : ∀ q, q < Qn → (Q q).map S.x = X q) (h : PIn K TP TC TQ w pb cv qb most Qn (takeS S b S.m (S.nx b) x)) : HeldP K TP TC TQ w pb cv qb most Qn (S.n + 1) X b x :=
  ⟨_, _, _, h, rfl, (take_old p x).1, upd_at _ _ _, map_congr (take_old p x).2 hX⟩
theorem app_map {S S' : PS α} {Q : Nat → List Nat} {q i : Nat} {x : α} (hx : S'.x = S.x) (hi : S.x i = x) (hX : ∀ q, q < Qn → (Q q).map S.x = X q) (hq : q < Qn) : ∀ r, r < Qn → (upd Q q (Q q ++ [i]) r).map S'.x = upd X q (X q ++ [x]) r := fun r hr => by
  rw [hx]
  by_cases e : r = q
  · subst e; rw [upd_at, upd_at, List.map_append, hX r hr, List.map_singleton, hi]
  · rw [upd_off _ _ _ e, upd_off _ _ _ e, hX r hr]
theorem has_app0 {S : PS α} {F : List Nat} {Q : Nat → List Nat} {q i : Nat} {x : α} (p : Pl S Qn F Q (some i)) (hi : S.x i = x) (hX : ∀ q, q < Qn → (Q q).map S.x = X q) (hq : q < Qn) (h0 : Q q = []) (h : PIn K TP TC TQ w pb cv qb most Qn (appS0 S q i)) : HasP K TP TC TQ w pb cv qb most Qn S.n (upd X q (X q ++ [x])) :=
  ⟨_, _, _, h, rfl, app_none p hq h0, app_map rfl hi hX hq⟩
theorem has_app1 {S : PS α} {F : List Nat} {Q : Nat → List Nat} {q i t : Nat} {x : α} (p : Pl S Qn F Q (some i)) (hi : S.x i = x) (hX : ∀ q, q < Qn → (Q q).map S.x = X q) (hq : q < Qn) (h0 : Q q ≠ []) (ht : (Q q).getLast h0 = t) (h : PIn K TP TC TQ w pb cv qb most Qn (appS1 S q i t)) : HasP K TP TC TQ w pb cv qb most Qn S.n (upd X q (X q ++ [x])) :=
  ⟨_, _, _, h, rfl, app_some p hq h0 ht, app_map rfl hi hX hq⟩
theorem held_pop {S : PS α} {F : List Nat} {Q : Nat → List Nat} {q i : Nat} {l : List Nat} (p : Pl S Qn F Q none) (hX : ∀ q, q < Qn → (Q q).map S.x = X q) (hq : q < Qn) (h0 : Q q = i :: l) (h : PIn K TP TC TQ w pb cv qb most Qn (popS S q i)) : HeldP K TP TC TQ w pb cv qb most Qn S.n (upd X q (l.map S.x)) i (S.x i) :=
  ⟨_, _, _, h, rfl, pop_pl p hq h0, rfl, fun r hr => by
    show (upd Q q l r).map S.x = _
    by_cases e : r = q
    · subst e; rw [upd_at, upd_at]
    · rw [upd_off _ _ _ e, upd_off _ _ _ e, hX r hr]⟩
theorem has_give {S : PS α} {F : List Nat} {Q : Nat → List Nat} {i : Nat} (z : α) (p : Pl S Qn F Q (some i)) (hX : ∀ q, q < Qn → (Q q).map S.x = X q) (h : PIn K TP TC TQ w pb cv qb most Qn (giveS S i z)) : HasP K TP TC TQ w pb cv qb most Qn (S.n - 1) X :=
  ⟨_, _, _, h, rfl, (give_pl p z p.lt).1, map_congr (give_pl p z p.lt).2 hX⟩
end
end Go.Proofs.YtjbaibnmbeabnaaGreatDoor.Pool
