/- drr's classes, as they are made. No program in sight. -/
import Derived.Test.YtopibbaopglggaaDrrCore
import Derived.Test.YtopibbaopglggaaLaws
namespace Go.Proofs.Ytopibbaopglggaa
open Go.RowKit
def crow (q rb : Nat → Nat) (k : Nat) : List Value := (List.range k).flatMap fun i => [.int .u64 (q i : Nat), .int .u64 0, .pointer (some ⟨rb i, 0, none⟩)]
theorem crow_succ (q rb : Nat → Nat) (k b : Nat) : crow q (upd rb k b) (k + 1) = crow q rb k ++ [.int .u64 (q k : Nat), .int .u64 0, .pointer (some ⟨b, 0, none⟩)] := by
  unfold crow
  rw [List.range_succ, List.flatMap_append]
  congr 1
  · rw [List.flatMap_def, List.flatMap_def]
    exact congrArg List.flatten (List.map_congr_left fun i hi => by rw [upd_ne _ _ (Nat.ne_of_lt (List.mem_range.1 hi))])
  · simp [upd_at]
theorem crow_len (q rb : Nat → Nat) : ∀ k, (crow q rb k).length = k * 3
  | 0 => rfl
  | k + 1 => by
    have h := crow_len q rb k
    unfold crow at h ⊢
    rw [List.range_succ, List.flatMap_append, List.length_append, h]; simp; omega
theorem crow_at (q rb : Nat → Nat) : ∀ {k i : Nat}, i < k → (crow q rb k)[i * 3]? = some (.int .u64 (q i : Nat)) ∧ (crow q rb k)[i * 3 + 1]? = some (.int .u64 0) ∧ (crow q rb k)[i * 3 + 2]? = some (.pointer (some ⟨rb i, 0, none⟩))
  | 0, i, h => by omega
  | k + 1, i, h => by
    have hl := crow_len q rb k
    have e : crow q rb (k + 1) = crow q rb k ++ [.int .u64 (q k : Nat), .int .u64 0, .pointer (some ⟨rb k, 0, none⟩)] := by
      unfold crow; rw [List.range_succ, List.flatMap_append]; simp
    rw [e]
    rcases Nat.lt_or_ge i k with hi | hi
    · have h2 := crow_at q rb hi
      rw [List.getElem?_append_left (by omega), List.getElem?_append_left (by omega), List.getElem?_append_left (by omega)]
      exact h2
    · obtain rfl : i = k := by omega
      rw [List.getElem?_append_right (by omega), List.getElem?_append_right (by omega), List.getElem?_append_right (by omega), hl]
      refine ⟨by simp, ?_, ?_⟩
      · rw [show i * 3 + 1 - i * 3 = 1 by omega]; rfl
      · rw [show i * 3 + 2 - i * 3 = 2 by omega]; rfl
/-- k classes, with empty rings. -/
structure Classes (R E TC : TypeId) (t : Nat) (w wr : World) (v : Value) (q rb : Nat → Nat) (k : Nat) : Prop where
  row : wr.ownsRow w.heap.size TC 3 v k (crow q rb k)
  ring : ∀ i, i < k → PairAt R E wr (rb i) none 1024 []
  low : ∀ i, i < k → w.heap.size ≤ rb i
  off : ∀ i, i < k → v.ownBlock ≠ some (rb i)
  apart : ∀ i j, i < k → j < k → i ≠ j → rb i ≠ rb j
  upd : Upd (fun b => b = t) w wr
section
variable {R E TC : TypeId} {t : Nat} {w wr w1 w2 : World} {v v' : Value} {q rb : Nat → Nat} {k : Nat}
theorem Classes.start (R E TC : TypeId) (t : Nat) (w : World) (q rb : Nat → Nat) : Classes R E TC t w w (.slice none 0 0) q rb 0 :=
  ⟨ownsRow_nil _ _ _ _, fun i h => by omega, fun i h => by omega, fun i h => by omega, fun i j h => by omega, Upd.refl _ _⟩
/-- One class more: its ring made at block b, pushed behind; then the store. -/
theorem Classes.push (h : Classes R E TC t w wr v q rb k) (ht : t < w.heap.size) (hu1 : Upd Nowhere wr w1) (hr : PairAt R E w1 wr.heap.size none 1024 [])
    (ho : w2.ownsRow w.heap.size TC 3 v' (k + 1) (crow q rb k ++ [.int .u64 (q k : Nat), .int .u64 0, .pointer (some ⟨wr.heap.size, 0, none⟩)])) (hu2 : Upd (fun b => v.ownBlock = some b) w1 w2) (hn : OwnOrNew w1 v v') :
    Classes R E TC t w (w2.setCell ⟨t, 0, none⟩ v') v' q (Go.Proofs.Ytopibbaopglggaa.upd rb k wr.heap.size) (k + 1) := by
  have hlt : ∀ i, i < k → rb i < wr.heap.size := fun i hi => (h.ring i hi).lts (.inl rfl)
  have hv : ∀ b, v.ownBlock = some b → b < wr.heap.size := fun b hb => (h.row.lt b hb).2
  have hbw := hr.lts (.inl rfl)
  have hval : ∀ i, i < k + 1 → i ≠ k → i < k := fun i h1 h2 => by omega
  have hu3 : Upd (fun b => b = t) w2 (w2.setCell ⟨t, 0, none⟩ v') := Upd.setCell (S := fun b => b = t) (Upd.refl _ _) (fun _ => rfl) _
  have hsz := h.upd.size
  have hoff : ∀ i, i < k + 1 → v'.ownBlock ≠ some (Go.Proofs.Ytopibbaopglggaa.upd rb k wr.heap.size i) := fun i hi e => by
    by_cases hik : i = k
    · subst hik; rw [upd_at] at e
      rcases hn _ e with h4 | h4
      · exact absurd (hv _ h4) (Nat.lt_irrefl _)
      · exact absurd hbw (Nat.not_lt.2 h4)
    · rw [upd_ne _ _ hik] at e
      rcases hn _ e with h4 | h4
      · exact h.off i (hval i hi hik) h4
      · exact absurd (Nat.lt_of_lt_of_le (hlt i (hval i hi hik)) hu1.size) (Nat.not_lt.2 h4)
  have hlow : ∀ i, i < k + 1 → w.heap.size ≤ Go.Proofs.Ytopibbaopglggaa.upd rb k wr.heap.size i := fun i hi => by
    by_cases hik : i = k
    · subst hik; rw [upd_at]; exact hsz
    · rw [upd_ne _ _ hik]; exact h.low i (hval i hi hik)
  refine ⟨ownsRow_upd (by rw [crow_succ]; exact ho) hu3 (fun b hb e => ?_), fun i hi => ?_, hlow, hoff, fun i j hi hj hij e => ?_, ((h.upd.trans hu1 (fun _ _ h => h.elim)).trans hu2 (fun b hb hk => absurd (h.row.lt b hk).1 (Nat.not_le.2 hb))).trans hu3 (fun _ _ h => h)⟩
  · subst e; exact absurd ht (Nat.not_lt.2 (ho.lt b hb).1)
  · have h5 : PairAt R E w2 (Go.Proofs.Ytopibbaopglggaa.upd rb k wr.heap.size i) none 1024 [] := by
      by_cases hik : i = k
      · subst hik; rw [upd_at]; exact hr.kept hu2 (fun q hq e => by
          rcases hq with rfl | hq
          · exact absurd (hv _ e) (Nat.lt_irrefl _)
          · cases hq)
      · rw [upd_ne _ _ hik]
        exact ((h.ring i (hval i hi hik)).kept hu1 (fun _ _ h => h)).kept hu2 (fun q hq e => by
          rcases hq with rfl | hq
          · exact h.off i (hval i hi hik) e
          · cases hq)
    refine h5.kept hu3 (fun q hq e => ?_)
    have := hlow i hi
    rcases hq with rfl | hq
    · omega
    · cases hq
  · by_cases hik : i = k
    · subst hik
      rw [upd_at, upd_ne _ _ (fun e => hij e.symm)] at e
      have := hlt j (hval j hj (fun e => hij e.symm)); omega
    · by_cases hjk : j = k
      · subst hjk
        rw [upd_at, upd_ne _ _ hik] at e
        have := hlt i (hval i hi hik); omega
      · rw [upd_ne _ _ hik, upd_ne _ _ hjk] at e
        exact h.apart i j (hval i hi hik) (hval j hj hjk) hij e
end
end Go.Proofs.Ytopibbaopglggaa
