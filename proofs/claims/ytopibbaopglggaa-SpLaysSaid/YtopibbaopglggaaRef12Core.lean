/- The reference's queues in memory: numbers, and rows of pairs in a row. No program in sight. -/
import Derived.Test.YtopibbaopglggaaPcs
import Derived.Test.YtopibbaopglggaaSpPlain
import Derived.Test.YtopibbaopglggaaCells
namespace Go.Proofs.Ytopibbaopglggaa.Ref12
open Go.RowKit
/-- Values side by side. -/
def vals (vs : Nat → Value) (n : Nat) : List Value := (List.range n).map vs
theorem vals_len (vs : Nat → Value) (n : Nat) : (vals vs n).length = n := by simp [vals]
theorem vals_at (vs : Nat → Value) {n i : Nat} (h : i < n) : (vals vs n)[i]? = some (vs i) := by simp [vals, h]
theorem vals_succ (vs : Nat → Value) (n : Nat) (v : Value) : vals (upd vs n v) (n + 1) = vals vs n ++ [v] := by
  unfold vals
  rw [List.range_succ, List.map_append, List.map_cons, List.map_nil, upd_at]
  congr 1
  refine List.map_congr_left (fun i hi => upd_ne _ _ ?_)
  have := List.mem_range.1 hi; omega
theorem vals_set (vs : Nat → Value) {n i : Nat} (v : Value) (_h : i < n) : (vals vs n).set i v = vals (upd vs i v) n := by
  refine List.ext_getElem? (fun j => ?_)
  by_cases hj : j < n
  · rw [vals_at _ hj]
    by_cases hij : i = j
    · subst hij
      rw [List.getElem?_set_self (by rw [vals_len]; exact hj), upd_at]
    · rw [List.getElem?_set_ne hij, vals_at _ hj, upd_ne _ _ (Ne.symm hij)]
  · rw [List.getElem?_eq_none (by simp [vals_len]; omega), List.getElem?_eq_none (by rw [vals_len]; omega)]
/-- Numbers side by side. -/
def nums (bs : Nat → Nat) (n : Nat) : List Value := vals (fun i => .int .u64 (bs i : Nat)) n
/-- The reference's queues. -/
structure RefIn (TQ TU TL TI : TypeId) (B : Nat) (w : World) (b room n : Nat) (bv lv : Value) (vs : Nat → Value) (bs : Nat → Nat) (qs : Nat → List (Nat × Int)) : Prop where
  blk : Blk w b #[.int .i64 room, bv, lv] TQ
  bnd : w.ownsRow B TU 1 bv n (nums bs n)
  lst : w.ownsRow B TL 1 lv n (vals vs n)
  row : ∀ i, i < n → PRow TI B w (vs i) (qs i)
  low : B ≤ b
  ob : bv.ownBlock ≠ some b
  ol : lv.ownBlock ≠ some b
  bl : ∀ k, bv.ownBlock = some k → lv.ownBlock ≠ some k
  ov : ∀ i, i < n → ∀ k, (vs i).ownBlock = some k → k ≠ b ∧ lv.ownBlock ≠ some k
/-- The blocks of it. -/
def RefOf (b n : Nat) (bv lv : Value) (vs : Nat → Value) : Nat → Prop := fun k => k = b ∨ bv.ownBlock = some k ∨ lv.ownBlock = some k ∨ ∃ i, i < n ∧ (vs i).ownBlock = some k
section
variable {TQ TU TL TI : TypeId} {B : Nat} {w w' : World} {b room n : Nat} {bv lv : Value} {vs : Nat → Value} {bs : Nat → Nat} {qs : Nat → List (Nat × Int)}
theorem RefIn.lts (h : RefIn TQ TU TL TI B w b room n bv lv vs bs qs) {k : Nat} (hk : RefOf b n bv lv vs k) : B ≤ k ∧ k < w.heap.size := by
  rcases hk with rfl | hk | hk | ⟨i, hi, hk⟩
  · exact ⟨h.low, h.blk.lt⟩
  · exact h.bnd.lt k hk
  · exact h.lst.lt k hk
  · exact (h.row i hi).lt k hk
theorem RefIn.kept (h : RefIn TQ TU TL TI B w b room n bv lv vs bs qs) {S : Nat → Prop} (hu : Upd S w w') (hs : ∀ k, RefOf b n bv lv vs k → ¬ S k) : RefIn TQ TU TL TI B w' b room n bv lv vs bs qs :=
  { h with blk := h.blk.kept hu (hs b (.inl rfl)), bnd := ownsRow_upd h.bnd hu (fun k hk => hs k (.inr (.inl hk))), lst := ownsRow_upd h.lst hu (fun k hk => hs k (.inr (.inr (.inl hk)))), row := fun i hi => ownsRow_upd (h.row i hi) hu (fun k hk => hs k (.inr (.inr (.inr ⟨i, hi, hk⟩)))) }
theorem RefIn.old (h : RefIn TQ TU TL TI B w b room n bv lv vs bs qs) (hu : Upd Nowhere w w') : RefIn TQ TU TL TI B w' b room n bv lv vs bs qs := h.kept hu (fun _ _ h => h)
theorem RefIn.lform (h : RefIn TQ TU TL TI B w b room n bv lv vs bs qs) (hn : 0 < n) : ∃ g c, lv = .slice (some ⟨g, 0, none⟩) n c := by
  rcases h.lst.2 with ⟨_, h0⟩ | ⟨g, c, cur, rfl, _⟩
  · omega
  · exact ⟨g, c, rfl⟩
theorem RefIn.bform (h : RefIn TQ TU TL TI B w b room n bv lv vs bs qs) (hn : 0 < n) : ∃ g c, bv = .slice (some ⟨g, 0, none⟩) n c := by
  rcases h.bnd.2 with ⟨_, h0⟩ | ⟨g, c, cur, rfl, _⟩
  · omega
  · exact ⟨g, c, rfl⟩
theorem RefIn.lcell {g c : Nat} (h : RefIn TQ TU TL TI B w b room n bv (.slice (some ⟨g, 0, none⟩) n c) vs bs qs) {i : Nat} (hi : i < n) : w.cell? ⟨g, i, none⟩ = some (vs i) ∧ w.frozen? ⟨g, i, none⟩ = false := by
  obtain ⟨cur, hb, _, _, _, ht⟩ := Blk.own h.lst
  refine ⟨?_, hb.free _⟩
  have h1 := vals_at vs hi
  rw [← ht, List.getElem?_take_of_lt (by omega)] at h1
  exact hb.cellAt (by simpa using h1)
theorem RefIn.bcell {g c : Nat} (h : RefIn TQ TU TL TI B w b room n (.slice (some ⟨g, 0, none⟩) n c) lv vs bs qs) {i : Nat} (hi : i < n) : w.cell? ⟨g, i, none⟩ = some (.int .u64 (bs i : Nat)) := by
  obtain ⟨cur, hb, _, _, _, ht⟩ := Blk.own h.bnd
  have h1 := vals_at (fun i => Value.int .u64 (bs i : Nat)) hi
  have h2 : vals (fun i => Value.int .u64 (bs i : Nat)) n = nums bs n := rfl
  rw [h2, ← ht, List.getElem?_take_of_lt (by omega)] at h1
  exact hb.cellAt (by simpa using h1)
/-- New bounds. -/
theorem RefIn.setB (h : RefIn TQ TU TL TI B w b room n bv lv vs bs qs) {bv' : Value} {bs' : Nat → Nat} (hb : w.ownsRow B TU 1 bv' n (nums bs' n)) (h1 : bv'.ownBlock ≠ some b) (h2 : ∀ k, bv'.ownBlock = some k → lv.ownBlock ≠ some k) :
    RefIn TQ TU TL TI B (w.setCell ⟨b, 1, none⟩ bv') b room n bv' lv vs bs' qs := by
  have hu : Upd (fun k => k = b) w (w.setCell ⟨b, 1, none⟩ bv') := (Upd.refl (fun k => k = b) w).setCell (a := ⟨b, 1, none⟩) (fun _ => rfl) _
  exact ⟨h.blk.set 1 _, ownsRow_upd hb hu (fun k hk e => h1 (by rw [hk, e])), ownsRow_upd h.lst hu (fun k hk e => h.ol (by rw [hk, e])), fun i hi => ownsRow_upd (h.row i hi) hu (fun k hk e => (h.ov i hi k hk).1 e), h.low, h1, h.ol, h2, h.ov⟩
/-- A new row at a place. -/
theorem RefIn.setQ {g c : Nat} (h : RefIn TQ TU TL TI B w b room n bv (.slice (some ⟨g, 0, none⟩) n c) vs bs qs) {i : Nat} (hi : i < n) {v : Value} {q : List (Nat × Int)} (hq : PRow TI B w v q) (h1 : ∀ k, v.ownBlock = some k → k ≠ b ∧ k ≠ g) :
    RefIn TQ TU TL TI B (w.setCell ⟨g, i, none⟩ v) b room n bv (.slice (some ⟨g, 0, none⟩) n c) (upd vs i v) bs (upd qs i q) := by
  have hu : Upd (fun k => k = g) w (w.setCell ⟨g, i, none⟩ v) := (Upd.refl (fun k => k = g) w).setCell (a := ⟨g, i, none⟩) (fun _ => rfl) _
  have hgb : b ≠ g := fun e => h.ol (by rw [e]; rfl)
  have hbl : ∀ k, bv.ownBlock = some k → k ≠ g := fun k hk e => h.bl k hk (by rw [e]; rfl)
  refine ⟨h.blk.kept hu hgb, ownsRow_upd h.bnd hu hbl, ?_, fun j hj => ?_, h.low, h.ob, h.ol, h.bl, fun j hj k hk => ?_⟩
  · rcases h.lst.2 with ⟨h0, _⟩ | ⟨g', c', cur, he, hB, hb, a1, a2, a3, a4⟩
    · cases h0
    · cases he
      refine ⟨by simp [vals_len], .inr ⟨g, c, _, rfl, hB, Blk.set hb i v, a1, a2, by simpa using a3, ?_⟩⟩
      rw [← vals_set vs v hi, ← a4]
      simp only [Array.toList_setIfInBounds, List.take_set]
  · by_cases hji : j = i
    · subst hji; rw [upd_at, upd_at]; exact ownsRow_upd hq hu (fun k hk => (h1 k hk).2)
    · rw [upd_ne _ _ hji, upd_ne _ _ hji]; exact ownsRow_upd (h.row j hj) hu (fun k hk e => (h.ov j hj k hk).2 (by rw [e]; rfl))
  · by_cases hji : j = i
    · subst hji; rw [upd_at] at hk; exact ⟨(h1 k hk).1, fun e => (h1 k hk).2 (by simpa [Value.ownBlock] using e.symm)⟩
    · rw [upd_ne _ _ hji] at hk; exact h.ov j hj k hk
end
theorem tot_mono {α : Type} (qs : Nat → List α) {i j : Nat} (h : i ≤ j) : tot qs i ≤ tot qs j := by
  induction h with
  | refl => exact Nat.le_refl _
  | step _ ih => exact Nat.le_trans ih (by simp [tot])
end Go.Proofs.Ytopibbaopglggaa.Ref12
