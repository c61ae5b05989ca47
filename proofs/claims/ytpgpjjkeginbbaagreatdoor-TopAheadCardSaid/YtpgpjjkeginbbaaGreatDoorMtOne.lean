/- TopOpen, one behind the other. -/
import Derived.Test.YtpgpjjkeginbbaaGreatDoorMtSh11
import Derived.Test.YtpgpjjkeginbbaaGreatDoorMtOp
namespace Go.Proofs.YtpgpjjkeginbbaaGreatDoor.Shm
open Go.RowKit Go.Proofs BigFrame
open Sh (Fl Cg)
open Rnk (FlsIn KF)
set_option linter.unusedSimpArgs false
theorem flatW_at {α β : Type} {W : Nat} (f : α → List β) (hf : ∀ a, (f a).length = W) : ∀ {l : List α} {k : Nat} {a : α}, l[k]? = some a → ∀ {j : Nat}, j < W → (l.flatMap f)[k * W + j]? = (f a)[j]?
 | [], _, _, h, _, _ => by simp at h
 | x :: r, k, a, h, j, hj => by
   rw [List.flatMap_cons]
   cases k with
   | zero =>
     simp only [List.getElem?_cons_zero] at h; cases h
     rw [Nat.zero_mul, Nat.zero_add, List.getElem?_append_left (by rw [hf]; exact hj)]
   | succ k =>
     simp only [List.getElem?_cons_succ] at h
     have e : (k + 1) * W = k * W + W := Nat.succ_mul k W
     rw [List.getElem?_append_right (by rw [hf]; omega), hf, show (k + 1) * W + j - W = k * W + j by omega]
     exact flatW_at f hf h hj
theorem rows_get {X : Type} {f : X → List Value} {C : Nat} (hf : ∀ x, (f x).length = C) (hC : 0 < C) {w : World} {v : Value} {l : List X} (h : RowsAt w v l.length (l.flatMap f)) :
 ∃ ad c, v = .slice ad l.length c ∧ (ad = none → l.length = 0 ∧ c = 0) ∧ ∀ i x, l[i]? = some x → ∃ g o, ad = some ⟨g, o, none⟩ ∧ ∀ j u, (f x)[j]? = some u → w.cell? ⟨g, o + i * C + j, none⟩ = some u := by
 obtain ⟨ad, ca, rfl, h0, _, hca, hc⟩ := h
 refine ⟨ad, ca, rfl, h0, fun i x hx => ?_⟩
 have hlt : i < l.length := by
  rcases Nat.lt_or_ge i l.length with h' | h'
  · exact h'
  · rw [List.getElem?_eq_none h'] at hx; cases hx
 cases ad with
 | none => have := (h0 rfl).1; omega
 | some b =>
   have at_ : ∀ j u, (f x)[j]? = some u → (l.flatMap f)[i * C + j]? = some u := fun j u hu => by
    have hj : j < C := by
     rcases Nat.lt_or_ge j C with h' | h'
     · exact h'
     · rw [List.getElem?_eq_none (by rw [hf]; exact h')] at hu; cases hu
    rw [flatW_at f hf hx hj]; exact hu
   have h0' : (f x)[0]? = some ((f x)[0]'(by rw [hf]; exact hC)) := List.getElem?_eq_getElem _
   have hs := (hc b rfl _ _ (at_ _ _ h0')).1
   obtain ⟨g, o, sp⟩ := b
   simp only at hs
   subst hs
   exact ⟨g, o, rfl, fun j u hu => by rw [Nat.add_assoc]; exact (hc _ rfl _ _ (at_ j u hu)).2⟩
end Go.Proofs.YtpgpjjkeginbbaaGreatDoor.Shm

