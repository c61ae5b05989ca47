/- Empty rings in a row, as they are made. No program in sight. -/
import Derived.Test.YtopibbaopglggaaSpCore
import Derived.Test.YtopibbaopglggaaLaws
namespace Go.Proofs.Ytopibbaopglggaa
open Go.RowKit

def ptrs (rb : Nat → Nat) (k : Nat) : List Value := (List.range k).map fun i => .pointer (some ⟨rb i, 0, none⟩)
theorem ptrs_len (rb : Nat → Nat) (k : Nat) : (ptrs rb k).length = k := by simp [ptrs]
theorem ptrs_succ (rb : Nat → Nat) (k b : Nat) : ptrs (upd rb k b) (k + 1) = ptrs rb k ++ [.pointer (some ⟨b, 0, none⟩)] := by
  unfold ptrs
  rw [List.range_succ, List.map_append]
  congr 1
  · exact List.map_congr_left fun i hi => by rw [upd_ne _ _ (Nat.ne_of_lt (List.mem_range.1 hi))]
  · simp [upd_at]
theorem ptrs_at (rb : Nat → Nat) {k i : Nat} (h : i < k) : (ptrs rb k)[i]? = some (.pointer (some ⟨rb i, 0, none⟩)) := by simp [ptrs, h]
/-- k empty rings, and the row of pointers to them. -/
structure Rings (R E PT : TypeId) (w wr : World) (v : Value) (rb : Nat → Nat) (k room : Nat) : Prop where
  row : wr.ownsRow w.heap.size PT 1 v k (ptrs rb k)
  ring : ∀ i, i < k → PairAt R E wr (rb i) none room []
  low : ∀ i, i < k → w.heap.size ≤ rb i
  off : ∀ i, i < k → v.ownBlock ≠ some (rb i)
  apart : ∀ i j, i < k → j < k → i ≠ j → rb i ≠ rb j
  upd : Upd Nowhere w wr
section
variable {R E PT : TypeId} {w wr w1 w2 : World} {v v' : Value} {rb : Nat → Nat} {k room : Nat}
theorem Rings.start (R E PT : TypeId) (w : World) (rb : Nat → Nat) (room : Nat) : Rings R E PT w w (.slice none 0 0) rb 0 room :=
  ⟨ownsRow_nil _ _ _ _, fun i h => by omega, fun i h => by omega, fun i h => by omega, fun i j h => by omega, Upd.refl _ _⟩
theorem Rings.old (h : Rings R E PT w wr v rb k room) (hu : Upd Nowhere wr w1) : Rings R E PT w w1 v rb k room :=
  ⟨ownsRow_upd h.row hu (fun _ _ h => h), fun i hi => (h.ring i hi).kept hu (fun _ _ h => h), h.low, h.off, h.apart, h.upd.trans hu (fun _ _ h => h)⟩
/-- One ring more: made at block b, pushed behind. -/
theorem Rings.push (h : Rings R E PT w wr v rb k room) (hu1 : Upd Nowhere wr w1) (hr : PairAt R E w1 wr.heap.size none room [])
    (ho : w2.ownsRow w.heap.size PT 1 v' (k + 1) (ptrs rb k ++ [.pointer (some ⟨wr.heap.size, 0, none⟩)])) (hu2 : Upd (fun b => v.ownBlock = some b) w1 w2) (hn : OwnOrNew w1 v v') :
    Rings R E PT w w2 v' (Go.Proofs.Ytopibbaopglggaa.upd rb k wr.heap.size) (k + 1) room := by
  have hlt : ∀ i, i < k → rb i < wr.heap.size := fun i hi => (h.ring i hi).lts (.inl rfl)
  have hv : ∀ b, v.ownBlock = some b → b < wr.heap.size := fun b hb => (h.row.lt b hb).2
  have hbw := hr.lts (.inl rfl)
  have hval : ∀ i, i < k + 1 → i ≠ k → i < k := fun i h1 h2 => by omega
  refine ⟨by rw [ptrs_succ]; exact ho, fun i hi => ?_, fun i hi => ?_, fun i hi e => ?_, fun i j hi hj hij e => ?_, (h.upd.trans hu1 (fun _ _ h => h)).trans hu2 (fun b hb hk => absurd (h.row.lt b hk).1 (Nat.not_le.2 hb))⟩
  · by_cases hik : i = k
    · subst hik; rw [upd_at]; exact hr.kept hu2 (fun q hq e => by
        rcases hq with rfl | hq
        · exact absurd (hv _ e) (Nat.lt_irrefl _)
        · cases hq)
    · rw [upd_ne _ _ hik]
      exact ((h.ring i (hval i hi hik)).kept hu1 (fun _ _ h => h)).kept hu2 (fun q hq e => by
        rcases hq with rfl | hq
        · exact h.off i (hval i hi hik) e
        · cases hq)
  · by_cases hik : i = k
    · subst hik; rw [upd_at]; exact h.upd.size
    · rw [upd_ne _ _ hik]; exact h.low i (hval i hi hik)
  · by_cases hik : i = k
    · subst hik; rw [upd_at] at e
      rcases hn _ e with h4 | h4
      · exact absurd (hv _ h4) (Nat.lt_irrefl _)
      · exact absurd hbw (Nat.not_lt.2 h4)
    · rw [upd_ne _ _ hik] at e
      rcases hn _ e with h4 | h4
      · exact h.off i (hval i hi hik) h4
      · exact absurd (Nat.lt_of_lt_of_le (hlt i (hval i hi hik)) hu1.size) (Nat.not_lt.2 h4)
  · by_cases hik : i = k
    · subst hik
      rw [upd_at, upd_ne _ _ (fun e => hij e.symm)] at e
      have := hlt j (hval j hj (fun e => hij e.symm)); omega
    · by_cases hjk : j = k
      · subst hjk
        rw [upd_at, upd_ne _ _ hik] at e
        have := hlt i (hval i hi hik); omega
      · rw [upd_ne _ _ hik, upd_ne _ _ hjk] at e
        exact h.apart i j (hval i hi hik) (hval j hj hjk) hij e
end
theorem took_at {cur : Array Value} {m : Nat} {xs : List Value} (h : cur.toList.take m = xs) {i : Nat} {v : Value} (hx : xs[i]? = some v) (_hi : i < xs.length) : cur[i]? = some v := by
  rw [← h, List.getElem?_take] at hx
  split at hx
  · simpa using hx
  · cases hx
theorem made_at {cur : Array Value} {n : Nat} {z : Value} (h : cur.toList.take (n * 1) = (madeCells #[z] (n * 1)).toList) {i : Nat} (hi : i < n) : cur[i]? = some z := by
  refine took_at h ?_ (by simp [madeCells]; omega)
  simp [madeCells, Nat.mod_one, hi]
end Go.Proofs.Ytopibbaopglggaa
