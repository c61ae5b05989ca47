/- Rows of pairs in a row. No program in sight. -/
import Derived.Test.YtopibbaopglggaaRef12Core
namespace Go.Proofs.Ytopibbaopglggaa.Ref12
open Go.RowKit
theorem vals_range (vs : Nat → Value) (n : Nat) : vals vs (n + 1) = vals vs n ++ [vs n] := by
  unfold vals; rw [List.range_succ, List.map_append]; rfl
/-- Rows of pairs, in a row. -/
structure Nest (E L : TypeId) (B : Nat) (w : World) (lv : Value) (vs : Nat → Value) (qs : Nat → List (Nat × Int)) (n : Nat) : Prop where
  lst : w.ownsRow B L 1 lv n (vals vs n)
  row : ∀ i, i < n → PRow E B w (vs i) (qs i)
  ov : ∀ i, i < n → ∀ k, (vs i).ownBlock = some k → lv.ownBlock ≠ some k
/-- The blocks of it. -/
def NestOf (lv : Value) (vs : Nat → Value) (n : Nat) : Nat → Prop := fun k => lv.ownBlock = some k ∨ ∃ i, i < n ∧ (vs i).ownBlock = some k
section
variable {E L : TypeId} {B : Nat} {w w' wx w1 : World} {lv lv' v : Value} {vs : Nat → Value} {qs : Nat → List (Nat × Int)} {n : Nat}
theorem Nest.nil (E L : TypeId) (B : Nat) (w : World) (vs : Nat → Value) (qs : Nat → List (Nat × Int)) : Nest E L B w (.slice none 0 0) vs qs 0 :=
  ⟨ownsRow_nil _ _ _ _, fun _ hi => absurd hi (Nat.not_lt_zero _), fun _ hi => absurd hi (Nat.not_lt_zero _)⟩
theorem Nest.lts (h : Nest E L B w lv vs qs n) {k : Nat} (hk : NestOf lv vs n k) : B ≤ k ∧ k < w.heap.size := by
  rcases hk with hk | ⟨i, hi, hk⟩
  · exact h.lst.lt k hk
  · exact (h.row i hi).lt k hk
theorem Nest.kept (h : Nest E L B w lv vs qs n) {S : Nat → Prop} (hu : Upd S w w') (hs : ∀ k, NestOf lv vs n k → ¬ S k) : Nest E L B w' lv vs qs n :=
  ⟨ownsRow_upd h.lst hu (fun k hk => hs k (.inl hk)), fun i hi => ownsRow_upd (h.row i hi) hu (fun k hk => hs k (.inr ⟨i, hi, hk⟩)), h.ov⟩
theorem Nest.old (h : Nest E L B w lv vs qs n) (hu : Upd Nowhere w w') : Nest E L B w' lv vs qs n := h.kept hu (fun _ _ h => h)
theorem Nest.base {B' : Nat} (h : Nest E L B w lv vs qs n) (hB : B' ≤ B) : Nest E L B' w lv vs qs n := ⟨ownsRow_base h.lst hB, fun i hi => ownsRow_base (h.row i hi) hB, h.ov⟩
/-- One more row. -/
theorem Nest.push (h : Nest E L B w lv vs qs n) {q : List (Nat × Int)} (hq : PRow E B w v q) (hv1 : ∀ k, v.ownBlock = some k → lv.ownBlock ≠ some k) (hx : Upd Nowhere w wx) (hu : Upd (fun k => lv.ownBlock = some k) wx w1) (ho : w1.ownsRow B L 1 lv' (n + 1) (vals vs n ++ [v])) (hn : OwnOrNew wx lv lv') :
    Nest E L B w1 lv' (upd vs n v) (upd qs n q) (n + 1) ∧ ∀ k, NestOf lv' (upd vs n v) (n + 1) k → NestOf lv vs n k ∨ v.ownBlock = some k ∨ wx.heap.size ≤ k := by
  refine ⟨⟨?_, fun i hi => ?_, fun i hi k hk hk2 => ?_⟩, fun k hk => ?_⟩
  · rw [vals_succ]; exact ho
  · by_cases hin : i = n
    · subst hin; rw [upd_at, upd_at]; exact ownsRow_upd (ownsRow_upd hq hx (fun _ _ h => h)) hu (fun k hk e => hv1 k hk e)
    · rw [upd_ne _ _ hin, upd_ne _ _ hin]; exact ownsRow_upd (ownsRow_upd (h.row i (by omega)) hx (fun _ _ h => h)) hu (fun k hk e => h.ov i (by omega) k hk e)
  · have hb : lv.ownBlock ≠ some k ∧ k < wx.heap.size := by
      by_cases hin : i = n
      · subst hin; rw [upd_at] at hk; exact ⟨hv1 k hk, Nat.lt_of_lt_of_le (hq.lt k hk).2 hx.size⟩
      · rw [upd_ne _ _ hin] at hk; exact ⟨h.ov i (by omega) k hk, Nat.lt_of_lt_of_le ((h.row i (by omega)).lt k hk).2 hx.size⟩
    rcases hn k hk2 with h1 | h1
    · exact hb.1 h1
    · omega
  · rcases hk with hk | ⟨i, hi, hk⟩
    · rcases hn k hk with h1 | h1
      · exact .inl (.inl h1)
      · exact .inr (.inr h1)
    · by_cases hin : i = n
      · subst hin; rw [upd_at] at hk; exact .inr (.inl hk)
      · rw [upd_ne _ _ hin] at hk; exact .inl (.inr ⟨i, by omega, hk⟩)
theorem Nest.cell (h : Nest E L B w lv vs qs n) {i : Nat} (hi : i < n) : ∃ g c, lv = .slice (some ⟨g, 0, none⟩) n c ∧ ∀ j, j < n → w.cell? ⟨g, j, none⟩ = some (vs j) := by
  rcases h.lst.2 with ⟨_, h0⟩ | ⟨g, c, cur, rfl, _, hb, h1, h2, h3, ht⟩
  · omega
  · refine ⟨g, c, rfl, fun j hj => ?_⟩
    have h4 := vals_at vs hj
    rw [← ht, List.getElem?_take_of_lt (by omega)] at h4
    exact Blk.cellAt hb (by simpa using h4)
end
end Go.Proofs.Ytopibbaopglggaa.Ref12
