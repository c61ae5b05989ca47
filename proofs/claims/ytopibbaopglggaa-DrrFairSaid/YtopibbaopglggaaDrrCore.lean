/- Classes with rings of items, and a row of classes, in memory; what writes do to them. No program in sight. -/
import Derived.Test.YtopibbaopglggaaSpCore
import Derived.ArgAppend
namespace Go.Proofs.Ytopibbaopglggaa
open Go.RowKit
/-- A slice of numbers of its own, wherever in its array it begins. -/
def Lane (TI : TypeId) (w : World) (v : Value) (xs : List Nat) : Prop :=
  (v = .slice none 0 0 ∧ xs = []) ∨ ∃ g o c, v = .slice (some ⟨g, o, none⟩) xs.length c ∧ xs.length ≤ c ∧ ∃ cur : Array Value, Blk w g cur TI ∧ o + c ≤ cur.size ∧ ∀ j x, xs[j]? = some x → cur[o + j]? = some (.int .i64 (x : Nat))
section
variable {TI : TypeId} {w w' : World} {v : Value} {xs : List Nat}
theorem Lane.upd (h : Lane TI w v xs) {S : Nat → Prop} (hu : Upd S w w') (hs : ∀ k, v.ownBlock = some k → ¬ S k) : Lane TI w' v xs := by
  rcases h with h | ⟨g, o, c, rfl, h1, cur, h2, h3⟩
  · exact .inl h
  · exact .inr ⟨g, o, c, rfl, h1, cur, h2.kept hu (hs g rfl), h3⟩
theorem Lane.lt (h : Lane TI w v xs) {k : Nat} (hk : v.ownBlock = some k) : k < w.heap.size := by
  rcases h with ⟨rfl, _⟩ | ⟨g, o, c, rfl, h1, cur, h2, _⟩
  · cases hk
  · obtain rfl : g = k := by simpa [Value.ownBlock] using hk
    exact h2.lt
theorem Lane.form (h : Lane TI w v xs) : ∃ ad c, v = .slice ad xs.length c := by
  rcases h with ⟨rfl, rfl⟩ | ⟨g, o, c, rfl, _⟩
  · exact ⟨none, 0, rfl⟩
  · exact ⟨_, c, rfl⟩
theorem Lane.cons {x : Nat} {r : List Nat} (h : Lane TI w v (x :: r)) : ∃ g o c, v = .slice (some ⟨g, o, none⟩) (r.length + 1) (c + 1) ∧ w.cell? ⟨g, o, none⟩ = some (.int .i64 (x : Nat)) ∧ g < w.heap.size ∧
    Lane TI w (.slice (if c = 0 then some ⟨g, o, none⟩ else some ⟨g, o + 1, none⟩) r.length c) r := by
  rcases h with ⟨_, h⟩ | ⟨g, o, c, rfl, h1, cur, h2, h3, h4⟩
  · cases h
  · have hl : (x :: r).length = r.length + 1 := rfl
    rw [hl] at h1 ⊢
    obtain ⟨d, rfl⟩ : ∃ d, c = d + 1 := ⟨c - 1, by omega⟩
    refine ⟨g, o, d, rfl, h2.cellAt (by simpa using h4 0 x rfl), h2.lt, ?_⟩
    by_cases hd : d = 0
    · subst hd
      have hr : r = [] := List.eq_nil_of_length_eq_zero (by omega)
      subst hr
      exact .inr ⟨g, o, 0, rfl, Nat.le_refl _, cur, h2, by omega, fun j y hy => by cases hy⟩
    · rw [if_neg hd]
      refine .inr ⟨g, o + 1, d, rfl, by omega, cur, h2, by omega, fun j y hy => ?_⟩
      have := h4 (j + 1) y (by simpa using hy)
      rw [show o + 1 + j = o + (j + 1) by omega]
      exact this
theorem Lane.row (h : Lane TI w v xs) : ∃ ad c, v = .slice ad xs.length c ∧ (ad = none → xs = [] ∧ c = 0) ∧ ∀ b, ad = some b → ∀ (j x : Nat), xs[j]? = some x → b.spot = none ∧ w.cell? ⟨b.block, b.off + j, none⟩ = some (.int .i64 (x : Nat)) := by
  rcases h with ⟨rfl, rfl⟩ | ⟨g, o, c, rfl, _, cur, h2, _, h4⟩
  · exact ⟨none, 0, rfl, fun _ => ⟨rfl, rfl⟩, fun b hb => by cases hb⟩
  · refine ⟨_, c, rfl, (fun h => by cases h), fun b hb j x hx => ?_⟩
    obtain rfl := Option.some.inj hb
    exact ⟨rfl, h2.cellAt (h4 j x hx)⟩
end
/-- One more is laid behind: in place. -/
theorem Lane.put {TI : TypeId} {w : World} {g o c : Nat} {xs : List Nat} (h : Lane TI w (.slice (some ⟨g, o, none⟩) xs.length c) xs) (hc : xs.length + 1 ≤ c) (x : Nat) (hg : ∃ cur, Blk w g cur TI ∧ o + c ≤ cur.size) :
    Lane TI (w.setCell ⟨g, o + xs.length, none⟩ (.int .i64 (x : Nat))) (.slice (some ⟨g, o, none⟩) (xs.length + 1) c) (xs ++ [x]) := by
  obtain ⟨cur0, hb0, hs0⟩ := hg
  rcases h with ⟨h, _⟩ | ⟨g', o', c', he, h1, cur, h2, h3, h4⟩
  · cases h
  · cases he
    refine .inr ⟨g, o, c, by simp, by simpa using hc, _, h2.set _ _, by simpa using h3, fun j y hy => ?_⟩
    rcases Nat.lt_or_ge j xs.length with hj | hj
    · rw [List.getElem?_append_left hj] at hy
      rw [Array.getElem?_setIfInBounds_ne (by omega)]
      exact h4 j y hy
    · have hj2 : j = xs.length := by
        rcases Nat.lt_or_ge j (xs.length + 1) with h' | h'
        · omega
        · rw [List.getElem?_eq_none (by simp; omega)] at hy; cases hy
      subst hj2
      have hy' : x = y := by simpa using hy
      subst hy'
      exact Array.getElem?_setIfInBounds_self_of_lt (by omega)
/-- One more, in a new row. -/
theorem Lane.grown {TI : TypeId} {w w' : World} {v : Value} {ys : List Nat} (h : w'.ownsRow w.heap.size TI 1 v ys.length (ys.map fun x => .int .i64 (x : Nat))) : Lane TI w' v ys ∧ ∀ k, v.ownBlock = some k → w.heap.size ≤ k := by
  refine ⟨?_, fun k hk => (h.lt k hk).1⟩
  rcases h.2 with ⟨rfl, h0⟩ | ⟨g, cap, cur, rfl, _, hg, hn, _, hs, ht⟩
  · exact .inl ⟨rfl, List.eq_nil_of_length_eq_zero h0⟩
  · refine .inr ⟨g, 0, cap, rfl, hn, cur, hg, by omega, fun j x hx => ?_⟩
    have h1 : (ys.map fun x => Value.int .i64 (x : Nat))[j]? = some (.int .i64 (x : Nat)) := by rw [List.getElem?_map, hx]; rfl
    rw [← ht, List.getElem?_take] at h1
    split at h1
    · rw [Nat.zero_add]; simpa using h1
    · cases h1
/-- Classes at block t: their array gc, the row of those that have items. -/
structure DrrIn (TT TC R E TI : TypeId) (w : World) (t gc cc n cnt : Nat) (rv : Value) (row : List Nat) (begun : Bool) (q cr rb : Nat → Nat) (rg : Nat → Option Nat) (its : Nat → List (Value × Value)) : Prop where
  blk : Blk w t #[.slice (some ⟨gc, 0, none⟩) n cc, rv, .bool begun, .int .i64 cnt] TT
  cls : ∃ cur : Array Value, Blk w gc cur TC ∧ ∀ i, i < n → cur[i * 3]? = some (.int .u64 (q i : Nat)) ∧ cur[i * 3 + 1]? = some (.int .u64 (cr i : Nat)) ∧ cur[i * 3 + 2]? = some (.pointer (some ⟨rb i, 0, none⟩))
  ring : ∀ i, i < n → PairAt R E w (rb i) (rg i) 1024 (its i)
  lane : Lane TI w rv row
  npos : 0 < n
  nle : n ≤ 64
  tg : t ≠ gc
  off : ∀ i, i < n → ∀ k, RingOf (rb i) (rg i) k → k ≠ t ∧ k ≠ gc
  apart : ∀ i j, i < n → j < n → i ≠ j → ∀ k, RingOf (rb i) (rg i) k → ¬ RingOf (rb j) (rg j) k
  roff : ∀ k, rv.ownBlock = some k → k ≠ t ∧ k ≠ gc ∧ ∀ i, i < n → ¬ RingOf (rb i) (rg i) k
/-- The blocks of classes. -/
def DrrOf (t gc n : Nat) (rv : Value) (rb : Nat → Nat) (rg : Nat → Option Nat) : Nat → Prop := fun k => k = t ∨ k = gc ∨ rv.ownBlock = some k ∨ ∃ i, i < n ∧ RingOf (rb i) (rg i) k
section
variable {TT TC R E TI : TypeId} {w w' : World} {t gc cc n cnt : Nat} {rv : Value} {row : List Nat} {begun : Bool} {q cr rb : Nat → Nat} {rg : Nat → Option Nat} {its : Nat → List (Value × Value)}
theorem DrrIn.lts (h : DrrIn TT TC R E TI w t gc cc n cnt rv row begun q cr rb rg its) {k : Nat} (hk : DrrOf t gc n rv rb rg k) : k < w.heap.size := by
  rcases hk with rfl | rfl | hk | ⟨i, hi, hk⟩
  · exact h.blk.lt
  · obtain ⟨cur, hc, _⟩ := h.cls; exact hc.lt
  · exact h.lane.lt hk
  · exact (h.ring i hi).lts hk
theorem DrrIn.kept (h : DrrIn TT TC R E TI w t gc cc n cnt rv row begun q cr rb rg its) {S : Nat → Prop} (hu : Upd S w w') (hs : ∀ k, DrrOf t gc n rv rb rg k → ¬ S k) : DrrIn TT TC R E TI w' t gc cc n cnt rv row begun q cr rb rg its :=
  { h with
    blk := h.blk.kept hu (hs t (.inl rfl))
    cls := by obtain ⟨cur, hc, h2⟩ := h.cls; exact ⟨cur, hc.kept hu (hs gc (.inr (.inl rfl))), h2⟩
    ring := fun i hi => (h.ring i hi).kept hu (fun k hk => hs k (.inr (.inr (.inr ⟨i, hi, hk⟩))))
    lane := h.lane.upd hu (fun k hk => hs k (.inr (.inr (.inl hk)))) }
theorem DrrIn.old (h : DrrIn TT TC R E TI w t gc cc n cnt rv row begun q cr rb rg its) (hu : Upd Nowhere w w') : DrrIn TT TC R E TI w' t gc cc n cnt rv row begun q cr rb rg its := h.kept hu (fun _ _ h => h)
theorem DrrIn.q_ (h : DrrIn TT TC R E TI w t gc cc n cnt rv row begun q cr rb rg its) {i : Nat} (hi : i < n) : w.cell? ⟨gc, i * 3, none⟩ = some (.int .u64 (q i : Nat)) := by
  obtain ⟨cur, hc, h2⟩ := h.cls; exact hc.cellAt (h2 i hi).1
theorem DrrIn.cr_ (h : DrrIn TT TC R E TI w t gc cc n cnt rv row begun q cr rb rg its) {i : Nat} (hi : i < n) : w.cell? ⟨gc, i * 3 + 1, none⟩ = some (.int .u64 (cr i : Nat)) := by
  obtain ⟨cur, hc, h2⟩ := h.cls; exact hc.cellAt (h2 i hi).2.1
theorem DrrIn.rb_ (h : DrrIn TT TC R E TI w t gc cc n cnt rv row begun q cr rb rg its) {i : Nat} (hi : i < n) : w.cell? ⟨gc, i * 3 + 2, none⟩ = some (.pointer (some ⟨rb i, 0, none⟩)) := by
  obtain ⟨cur, hc, h2⟩ := h.cls; exact hc.cellAt (h2 i hi).2.2
theorem DrrIn.cfree (h : DrrIn TT TC R E TI w t gc cc n cnt rv row begun q cr rb rg its) (i : Nat) : w.frozen? ⟨gc, i, none⟩ = false := by
  obtain ⟨cur, hc, _⟩ := h.cls; exact hc.free i
/-- Cells of the head block, written anew. -/
theorem DrrIn.head (h : DrrIn TT TC R E TI w t gc cc n cnt rv row begun q cr rb rg its) {begun' : Bool} {cnt' : Nat} (hu : Upd (fun k => k = t) w w') (hb : Blk w' t #[.slice (some ⟨gc, 0, none⟩) n cc, rv, .bool begun', .int .i64 cnt'] TT) :
    DrrIn TT TC R E TI w' t gc cc n cnt' rv row begun' q cr rb rg its :=
  { h with
    blk := hb
    cls := by obtain ⟨cur, hc, h2⟩ := h.cls; exact ⟨cur, hc.kept hu (fun e => h.tg e.symm), h2⟩
    ring := fun i hi => (h.ring i hi).kept hu (fun k hk e => (h.off i hi k hk).1 e)
    lane := h.lane.upd hu (fun k hk e => (h.roff k hk).1 e) }
theorem DrrIn.setB (h : DrrIn TT TC R E TI w t gc cc n cnt rv row begun q cr rb rg its) (b : Bool) : DrrIn TT TC R E TI (w.setCell ⟨t, 2, none⟩ (.bool b)) t gc cc n cnt rv row b q cr rb rg its :=
  h.head (Upd.setCell (S := fun k => k = t) (Upd.refl _ _) (fun _ => rfl) _) (by simpa using h.blk.set 2 (.bool b))
theorem DrrIn.setN (h : DrrIn TT TC R E TI w t gc cc n cnt rv row begun q cr rb rg its) (c : Nat) : DrrIn TT TC R E TI (w.setCell ⟨t, 3, none⟩ (.int .i64 c)) t gc cc n c rv row begun q cr rb rg its :=
  h.head (Upd.setCell (S := fun k => k = t) (Upd.refl _ _) (fun _ => rfl) _) (by simpa using h.blk.set 3 (.int .i64 c))
/-- A credit, written. -/
theorem DrrIn.setC (h : DrrIn TT TC R E TI w t gc cc n cnt rv row begun q cr rb rg its) {i : Nat} (hi : i < n) (c : Nat) : DrrIn TT TC R E TI (w.setCell ⟨gc, i * 3 + 1, none⟩ (.int .u64 c)) t gc cc n cnt rv row begun q (upd cr i c) rb rg its := by
  have hu : Upd (fun k => k = gc) w (w.setCell ⟨gc, i * 3 + 1, none⟩ (.int .u64 c)) := Upd.setCell (S := fun k => k = gc) (Upd.refl _ _) (fun _ => rfl) _
  obtain ⟨cur, hc, h2⟩ := h.cls
  refine { h with
    blk := h.blk.kept hu h.tg
    cls := ⟨_, hc.set _ _, fun j hj => ?_⟩
    ring := fun i hi => (h.ring i hi).kept hu (fun k hk e => (h.off i hi k hk).2 e)
    lane := h.lane.upd hu (fun k hk e => (h.roff k hk).2.1 e) }
  obtain ⟨a1, a2, a3⟩ := h2 j hj
  rw [Array.getElem?_setIfInBounds_ne (by omega), Array.getElem?_setIfInBounds_ne (show i * 3 + 1 ≠ j * 3 + 2 by omega)]
  refine ⟨a1, ?_, a3⟩
  by_cases hji : j = i
  · subst hji
    rw [upd_at]
    have : j * 3 + 1 < cur.size := by
      rcases Nat.lt_or_ge (j * 3 + 1) cur.size with h' | h'
      · exact h'
      · rw [Array.getElem?_eq_none h'] at a2; cases a2
    exact Array.getElem?_setIfInBounds_self_of_lt this
  · rw [upd_ne _ _ hji, Array.getElem?_setIfInBounds_ne (by omega)]; exact a2
/-- The row, written: another slice of its own. -/
theorem DrrIn.setR (h : DrrIn TT TC R E TI w t gc cc n cnt rv row begun q cr rb rg its) {rv' : Value} {row' : List Nat} (hl : Lane TI w rv' row') (ho : ∀ k, rv'.ownBlock = some k → k ≠ t ∧ k ≠ gc ∧ ∀ i, i < n → ¬ RingOf (rb i) (rg i) k) :
    DrrIn TT TC R E TI (w.setCell ⟨t, 1, none⟩ rv') t gc cc n cnt rv' row' begun q cr rb rg its := by
  have hu : Upd (fun k => k = t) w (w.setCell ⟨t, 1, none⟩ rv') := Upd.setCell (S := fun k => k = t) (Upd.refl _ _) (fun _ => rfl) _
  exact { h with
    blk := by simpa using h.blk.set 1 rv'
    cls := by obtain ⟨cur, hc, h2⟩ := h.cls; exact ⟨cur, hc.kept hu (fun e => h.tg e.symm), h2⟩
    ring := fun i hi => (h.ring i hi).kept hu (fun k hk e => (h.off i hi k hk).1 e)
    lane := hl.upd hu (fun k hk e => (ho k hk).1 e)
    roff := ho }
/-- The row alone has turned. -/
theorem DrrIn.rowT (h : DrrIn TT TC R E TI w t gc cc n cnt rv row begun q cr rb rg its) {S : Nat → Prop} (hu : Upd S w w') (hs : ∀ k, S k → rv.ownBlock = some k ∨ w.heap.size ≤ k) :
    (∀ k, DrrOf t gc n rv rb rg k → rv.ownBlock ≠ some k → k < w'.heap.size) ∧ Blk w' t #[.slice (some ⟨gc, 0, none⟩) n cc, rv, .bool begun, .int .i64 cnt] TT ∧
    ∀ {rv' : Value} {row' : List Nat}, Lane TI w' rv' row' → (∀ k, rv'.ownBlock = some k → rv.ownBlock = some k ∨ w.heap.size ≤ k) → DrrIn TT TC R E TI (w'.setCell ⟨t, 1, none⟩ rv') t gc cc n cnt rv' row' begun q cr rb rg its := by
  have hno : ∀ k, k < w.heap.size → rv.ownBlock ≠ some k → ¬ S k := fun k hk hne hS => (hs k hS).elim hne (fun h => absurd hk (Nat.not_lt.2 h))
  have hbt : ¬ S t := hno t h.blk.lt (fun e => (h.roff t e).1 rfl)
  have hgc : ¬ S gc := hno gc (h.lts (.inr (.inl rfl))) (fun e => (h.roff gc e).2.1 rfl)
  have hrg : ∀ i, i < n → ∀ k, RingOf (rb i) (rg i) k → ¬ S k := fun i hi k hk => hno k ((h.ring i hi).lts hk) (fun e => (h.roff k e).2.2 i hi hk)
  have hbk := h.blk.kept hu hbt
  refine ⟨fun k hk _ => Nat.lt_of_lt_of_le (h.lts hk) hu.size, hbk, fun {rv' row'} hl hn => ?_⟩
  have hu2 : Upd (fun k => k = t) w' (w'.setCell ⟨t, 1, none⟩ rv') := Upd.setCell (S := fun k => k = t) (Upd.refl _ _) (fun _ => rfl) _
  have ho : ∀ k, rv'.ownBlock = some k → k ≠ t ∧ k ≠ gc ∧ ∀ i, i < n → ¬ RingOf (rb i) (rg i) k := fun k hk => by
    rcases hn k hk with h1 | h1
    · exact h.roff k h1
    · refine ⟨fun e => ?_, fun e => ?_, fun i hi hki => ?_⟩
      · subst e; exact absurd h.blk.lt (Nat.not_lt.2 h1)
      · subst e; exact absurd (h.lts (.inr (.inl rfl))) (Nat.not_lt.2 h1)
      · exact absurd ((h.ring i hi).lts hki) (Nat.not_lt.2 h1)
  exact { h with
    blk := by simpa using hbk.set 1 rv'
    cls := by obtain ⟨cur, hc, h2⟩ := h.cls; exact ⟨cur, (hc.kept hu hgc).kept hu2 (fun e => h.tg e.symm), h2⟩
    ring := fun i hi => ((h.ring i hi).kept hu (hrg i hi)).kept hu2 (fun k hk e => (h.off i hi k hk).1 e)
    lane := hl.upd hu2 (fun k hk e => (ho k hk).1 e)
    roff := ho }
/-- A ring, turned. -/
theorem DrrIn.turn (h : DrrIn TT TC R E TI w t gc cc n cnt rv row begun q cr rb rg its) {i : Nat} (hi : i < n) {ys : List (Value × Value)} (ht : PairTurned R E w w' (rb i) (rg i) 1024 ys) :
    ∃ g', DrrIn TT TC R E TI w' t gc cc n cnt rv row begun q cr rb (upd rg i g') (upd its i ys) ∧ (∀ k, DrrOf t gc n rv rb (upd rg i g') k → DrrOf t gc n rv rb rg k ∨ w.heap.size ≤ k) ∧ Upd (DrrOf t gc n rv rb rg) w w' := by
  obtain ⟨g', hr, hs, hu⟩ := ht
  have ho : ∀ j, j < n → ∀ k, RingOf (rb j) (upd rg i g' j) k → RingOf (rb j) (rg j) k ∨ w.heap.size ≤ k := fun j hj k hk => by
    by_cases hji : j = i
    · subst hji; rw [upd_at] at hk
      rcases hk with rfl | hk
      · exact .inl (.inl rfl)
      · exact (hs k hk).imp (fun h => .inr h) id
    · rw [upd_ne _ _ hji] at hk; exact .inl hk
  refine ⟨g', { h with
    blk := h.blk.kept hu (fun hk => (h.off i hi _ hk).1 rfl)
    cls := by obtain ⟨cur, hc, h2⟩ := h.cls; exact ⟨cur, hc.kept hu (fun hk => (h.off i hi _ hk).2 rfl), h2⟩
    ring := fun j hj => ?_
    lane := h.lane.upd hu (fun k hk hk2 => (h.roff k hk).2.2 i hi hk2)
    off := fun j hj k hk => ?_
    apart := fun j l hj hl hjl k hk hk2 => ?_
    roff := fun k hk => ⟨(h.roff k hk).1, (h.roff k hk).2.1, fun j hj hk2 => ?_⟩ }, fun k hk => ?_, hu.mono (fun k _ hk => .inr (.inr (.inr ⟨i, hi, hk⟩)))⟩
  · by_cases hji : j = i
    · subst hji; rw [upd_at, upd_at]; exact hr
    · rw [upd_ne _ _ hji, upd_ne _ _ hji]; exact (h.ring j hj).kept hu (fun k hk => h.apart j i hj hi hji k hk)
  · rcases ho j hj k hk with hk | hk
    · exact h.off j hj k hk
    · have h1 := h.lts (k := t) (.inl rfl)
      have h2 := h.lts (k := gc) (.inr (.inl rfl))
      omega
  · rcases ho j hj k hk with hk1 | hk1 <;> rcases ho l hl k hk2 with hk3 | hk3
    · exact h.apart j l hj hl hjl k hk1 hk3
    · exact absurd ((h.ring j hj).lts hk1) (Nat.not_lt.2 hk3)
    · exact absurd ((h.ring l hl).lts hk3) (Nat.not_lt.2 hk1)
    · by_cases hji : j = i
      · have hli : l ≠ i := fun e => hjl (by rw [hji, e])
        rw [upd_ne _ _ hli] at hk2
        exact absurd ((h.ring l hl).lts hk2) (Nat.not_lt.2 hk1)
      · rw [upd_ne _ _ hji] at hk
        exact absurd ((h.ring j hj).lts hk) (Nat.not_lt.2 hk1)
  · rcases ho j hj k hk2 with hk3 | hk3
    · exact (h.roff k hk).2.2 j hj hk3
    · exact absurd (h.lane.lt hk) (Nat.not_lt.2 hk3)
  · rcases hk with hk | hk | hk | ⟨j, hj, hk⟩
    · exact .inl (.inl hk)
    · exact .inl (.inr (.inl hk))
    · exact .inl (.inr (.inr (.inl hk)))
    · rcases ho j hj k hk with hk | hk
      · exact .inl (.inr (.inr (.inr ⟨j, hj, hk⟩)))
      · exact .inr hk
end
end Go.Proofs.Ytopibbaopglggaa
