/- A ring of things of two cells in memory: what it has, and what the writes of its code do to it. No program in sight. -/
import Derived.Test.YtopibbaopglggaaRingCore
import Derived.Test.YtopibbaopglggaaLaws
namespace Go.Proofs.Ytopibbaopglggaa
open Go.RowKit

/-- The ring at block b: its array is block g, its things are xs (two cells each), the first one at the place fr. -/
structure PairIn (T E : TypeId) (w : World) (b : Nat) (g : Option Nat) (room : Nat) (xs : List (Value × Value)) (fr len : Nat) : Prop where
  blk : Blk w b #[slv g len, .int .i64 fr, .int .i64 xs.length, .int .i64 room] T
  le1 : xs.length ≤ len
  le2 : len ≤ room
  le3 : room ≤ 65536
  nil : g = none → len = 0 ∧ fr = 0
  arr : ∀ k, g = some k → k ≠ b ∧ fr < len ∧ ∃ cur : Array Value, Blk w k cur E ∧ cur.size = len * 2 ∧ ∀ i v, xs[i]? = some v → cur[(fr + i) % len * 2]? = some v.1 ∧ cur[(fr + i) % len * 2 + 1]? = some v.2
def PairAt (T E : TypeId) (w : World) (b : Nat) (g : Option Nat) (room : Nat) (xs : List (Value × Value)) : Prop := ∃ fr len, PairIn T E w b g room xs fr len
def PairTurned (T E : TypeId) (w w' : World) (b : Nat) (g : Option Nat) (room : Nat) (xs : List (Value × Value)) : Prop :=
  ∃ g', PairAt T E w' b g' room xs ∧ SameOrNew w g g' ∧ Upd (RingOf b g) w w'
def PairGrown (T E : TypeId) (w w' : World) (b : Nat) (g : Option Nat) (room : Nat) (xs : List (Value × Value)) : Prop :=
  ∃ k fr len, PairIn T E w' b (some k) room xs fr len ∧ xs.length < len ∧ SameOrNew w g (some k) ∧ Upd (RingOf b g) w w'

section
variable {T E : TypeId} {w w' : World} {b : Nat} {g : Option Nat} {room fr len : Nat} {xs : List (Value × Value)}
theorem PairIn.kept (h : PairIn T E w b g room xs fr len) {S : Nat → Prop} (hu : Upd S w w') (hs : ∀ k, RingOf b g k → ¬ S k) : PairIn T E w' b g room xs fr len :=
  ⟨h.blk.kept hu (hs b (.inl rfl)), h.le1, h.le2, h.le3, h.nil, fun k hk => by
    obtain ⟨h1, h2, cur, h3, h4, h5⟩ := h.arr k hk
    exact ⟨h1, h2, cur, h3.kept hu (hs k (.inr hk)), h4, h5⟩⟩
theorem PairAt.kept (h : PairAt T E w b g room xs) {S : Nat → Prop} (hu : Upd S w w') (hs : ∀ k, RingOf b g k → ¬ S k) : PairAt T E w' b g room xs := by
  obtain ⟨fr, len, h⟩ := h; exact ⟨fr, len, h.kept hu hs⟩
theorem PairIn.drewN (h : PairIn T E w b g room xs fr len) (n : Nat) : PairIn T E (w.drewN n) b g room xs fr len := ⟨h.blk, h.le1, h.le2, h.le3, h.nil, h.arr⟩
theorem PairIn.c0 (h : PairIn T E w b g room xs fr len) : w.cell? ⟨b, 0, none⟩ = some (slv g len) := h.blk.cellAt rfl
theorem PairIn.c1 (h : PairIn T E w b g room xs fr len) : w.cell? ⟨b, 1, none⟩ = some (.int .i64 fr) := h.blk.cellAt rfl
theorem PairIn.c2 (h : PairIn T E w b g room xs fr len) : w.cell? ⟨b, 2, none⟩ = some (.int .i64 xs.length) := h.blk.cellAt rfl
theorem PairIn.c3 (h : PairIn T E w b g room xs fr len) : w.cell? ⟨b, 3, none⟩ = some (.int .i64 room) := h.blk.cellAt rfl
theorem PairIn.lt (h : PairIn T E w b g room xs fr len) : b < w.heap.size := h.blk.lt
theorem PairIn.lts (h : PairIn T E w b g room xs fr len) {k : Nat} (hk : RingOf b g k) : k < w.heap.size := by
  rcases hk with rfl | hk
  · exact h.lt
  · obtain ⟨_, _, cur, h3, _⟩ := h.arr k hk; exact h3.lt
theorem PairAt.lts (h : PairAt T E w b g room xs) {k : Nat} (hk : RingOf b g k) : k < w.heap.size := by
  obtain ⟨_, _, h⟩ := h; exact h.lts hk
theorem PairIn.atI (h : PairIn T E w b g room xs fr len) {i : Nat} {v : Value × Value} (hv : xs[i]? = some v) : ∃ k, g = some k ∧ w.cell? ⟨k, (fr + i) % len * 2, none⟩ = some v.1 ∧ w.cell? ⟨k, (fr + i) % len * 2 + 1, none⟩ = some v.2 := by
  have hi : i < xs.length := by
    rcases Nat.lt_or_ge i xs.length with h' | h'
    · exact h'
    · rw [List.getElem?_eq_none h'] at hv; cases hv
  cases hg : g with
  | none => have := (h.nil hg).1; have := h.le1; omega
  | some k => obtain ⟨_, _, cur, h3, _, h5⟩ := h.arr k hg; exact ⟨k, rfl, h3.cellAt (h5 i v hv).1, h3.cellAt (h5 i v hv).2⟩
theorem place_ne {fr n i len : Nat} (hf : fr < len) (hi : i < n) (hn : n < len) : (fr + n) % len ≠ (fr + i) % len := by
  intro e
  rcases Nat.lt_or_ge (fr + i) len with ha | ha <;> rcases Nat.lt_or_ge (fr + n) len with hc | hc
  · rw [Nat.mod_eq_of_lt ha, Nat.mod_eq_of_lt hc] at e; omega
  · rw [Nat.mod_eq_of_lt ha, Nat.mod_eq_sub_mod hc, Nat.mod_eq_of_lt (by omega)] at e; omega
  · omega
  · rw [Nat.mod_eq_sub_mod ha, Nat.mod_eq_sub_mod hc, Nat.mod_eq_of_lt (by omega), Nat.mod_eq_of_lt (by omega)] at e; omega
theorem set2_ne {cur : Array Value} {s t : Nat} (h : s ≠ t) (v0 v1 : Value) : ((cur.setIfInBounds (s * 2) v0).setIfInBounds (s * 2 + 1) v1)[t * 2]? = cur[t * 2]? ∧ ((cur.setIfInBounds (s * 2) v0).setIfInBounds (s * 2 + 1) v1)[t * 2 + 1]? = cur[t * 2 + 1]? := by
  constructor
  · rw [Array.getElem?_setIfInBounds_ne (by omega), Array.getElem?_setIfInBounds_ne (by omega)]
  · rw [Array.getElem?_setIfInBounds_ne (by omega), Array.getElem?_setIfInBounds_ne (by omega)]
theorem set2_at {cur : Array Value} {s : Nat} (h : s * 2 + 1 < cur.size) (v0 v1 : Value) : ((cur.setIfInBounds (s * 2) v0).setIfInBounds (s * 2 + 1) v1)[s * 2]? = some v0 ∧ ((cur.setIfInBounds (s * 2) v0).setIfInBounds (s * 2 + 1) v1)[s * 2 + 1]? = some v1 := by
  constructor
  · rw [Array.getElem?_setIfInBounds_ne (by omega), Array.getElem?_setIfInBounds_self_of_lt (by omega)]
  · rw [Array.getElem?_setIfInBounds_self_of_lt (by simp; omega)]
/-- The writes of Put. -/
theorem PairIn.put {k : Nat} (h : PairIn T E w b (some k) room xs fr len) (hl : xs.length < len) (v : Value × Value) (n : Int) (hn : n = xs.length + 1) :
    PairIn T E (((w.setCell ⟨k, (fr + xs.length) % len * 2, none⟩ v.1).setCell ⟨k, (fr + xs.length) % len * 2 + 1, none⟩ v.2).setCell ⟨b, 2, none⟩ (.int .i64 n)) b (some k) room (xs ++ [v]) fr len := by
  subst hn
  obtain ⟨h1, h2, cur, h3, h4, h5⟩ := h.arr k rfl
  have hb := ((h.blk.setOther (a := ⟨k, (fr + xs.length) % len * 2, none⟩) (Ne.symm h1) v.1).setOther (a := ⟨k, (fr + xs.length) % len * 2 + 1, none⟩) (Ne.symm h1) v.2).set 2 (.int .i64 (xs.length + 1))
  refine ⟨by simpa using hb, by simp; omega, h.le2, h.le3, (fun h => by cases h), fun k' hk' => ?_⟩
  obtain rfl : k = k' := by simpa using hk'
  refine ⟨h1, h2, _, ((h3.set _ v.1).set _ v.2).setOther (a := ⟨b, 2, none⟩) h1 _, by simpa using h4, fun i u hu => ?_⟩
  rcases Nat.lt_or_ge i xs.length with hi | hi
  · rw [List.getElem?_append_left hi] at hu
    obtain ⟨e1, e2⟩ := set2_ne (cur := cur) (place_ne h2 hi hl) v.1 v.2
    rw [e1, e2]
    exact h5 i u hu
  · have hi2 : i = xs.length := by
      rcases Nat.lt_or_ge i (xs.length + 1) with h' | h'
      · omega
      · rw [List.getElem?_eq_none (by simp; omega)] at hu; cases hu
    subst hi2
    have hu' : v = u := by simpa using hu
    subst hu'
    have hlt : (fr + xs.length) % len < len := Nat.mod_lt _ (by omega)
    exact set2_at (by omega) v.1 v.2
/-- The writes of Take. -/
theorem PairIn.take {k : Nat} {v : Value × Value} (h : PairIn T E w b (some k) room (v :: xs) fr len) {w2 : World} {cur cur' : Array Value} (hu : Upd (fun i => i = k) w w2) (hc0 : Blk w k cur E) (hc : Blk w2 k cur' E)
    (hs : cur'.size = cur.size) (he : ∀ i, i ≠ fr * 2 → i ≠ fr * 2 + 1 → cur'[i]? = cur[i]?) :
    PairIn T E ((w2.setCell ⟨b, 1, none⟩ (.int .i64 ((fr + 1) % len : Nat))).setCell ⟨b, 2, none⟩ (.int .i64 xs.length)) b (some k) room xs ((fr + 1) % len) len := by
  obtain ⟨h1, h2, cur0, h3, h4, h5⟩ := h.arr k rfl
  obtain rfl : cur = cur0 := by
    unfold Blk at hc0 h3; rw [hc0] at h3; injection h3 with h3; injection h3
  have hb := ((h.blk.kept hu (Ne.symm h1)).set 1 (.int .i64 ((fr + 1) % len : Nat))).set 2 (.int .i64 xs.length)
  have hl1 := h.le1
  simp only [List.length_cons] at hl1
  refine ⟨by simpa using hb, by omega, h.le2, h.le3, (fun h => by cases h), fun k' hk' => ?_⟩
  obtain rfl : k = k' := by simpa using hk'
  refine ⟨h1, Nat.mod_lt _ (by omega), cur', (hc.setOther (a := ⟨b, 1, none⟩) h1 _).setOther (a := ⟨b, 2, none⟩) h1 _, by omega, fun i u hu => ?_⟩
  have hi : i < xs.length := by
    rcases Nat.lt_or_ge i xs.length with h' | h'
    · exact h'
    · rw [List.getElem?_eq_none h'] at hu; cases hu
  have e : ((fr + 1) % len + i) % len = (fr + (i + 1)) % len := by rw [Nat.mod_add_mod]; congr 1; omega
  have hne : (fr + (i + 1)) % len ≠ fr := by
    intro e2
    rcases Nat.lt_or_ge (fr + (i + 1)) len with ha | ha
    · rw [Nat.mod_eq_of_lt ha] at e2; omega
    · rw [Nat.mod_eq_sub_mod ha, Nat.mod_eq_of_lt (by omega)] at e2; omega
  rw [e, he _ (by omega) (by omega), he _ (by omega) (by omega)]
  exact h5 (i + 1) u (by simpa using hu)
end

/-- Cells laid into an array from a place on. -/
def laid (cur : Array Value) (o : Nat) (cs : List Value) : Array Value := (cur.toList.take o ++ cs ++ cur.toList.drop (o + cs.length)).toArray
theorem laid_size (cur : Array Value) (o : Nat) (cs : List Value) (h : o + cs.length ≤ cur.size) : (laid cur o cs).size = cur.size := by
  simp [laid]; omega
theorem laid_ne (cur : Array Value) (o : Nat) (cs : List Value) (i : Nat) (h : i < o ∨ o + cs.length ≤ i) (hs : o + cs.length ≤ cur.size) : (laid cur o cs)[i]? = cur[i]? := by
  simp only [laid, List.getElem?_toArray]
  rcases h with h | h
  · rw [List.append_assoc, List.getElem?_append_left (by simp; omega), List.getElem?_take_of_lt h]
    simp
  · rw [List.getElem?_append_right (by simp; omega), List.getElem?_drop]
    have e : o + cs.length + (i - (List.take o cur.toList ++ cs).length) = i := by simp; omega
    rw [e]; simp
section
variable {P : Program}
theorem zero_one (cs : Array Value) : (Builtin.zeroCells cs 1).toList = cs.toList := by
  refine List.ext_getElem? fun i => ?_
  simp only [Builtin.zeroCells, Nat.one_mul, Array.toList_map, List.getElem?_map]
  rcases Nat.lt_or_ge i cs.size with h | h
  · simp [h, Nat.mod_eq_of_lt h]
  · rw [List.getElem?_eq_none (by simp; omega), List.getElem?_eq_none (by simpa using h)]; rfl
/-- One thing of whatever size is cleared. -/
theorem run_clear1 (t ty e : TypeId) (i : TypeInfo) (z : Value) (ht : P.underlying t = some (.slice e)) (hi : P.info? e = some i) (hz : i.zero = some z) (h1 : ∀ v ∈ z.cells.toList, v.oneCell' = true)
    (w : World) (g o cap : Nat) (cur : Array Value) (hg : Blk w g cur e) (hs : o + z.cells.toList.length ≤ cur.size) :
    (Builtin.clear_ #[t] ty #[.slice (some ⟨g, o, none⟩) 1 cap]).run P w = .ok (.tuple #[]) (w.setRow g (laid cur o z.cells.toList)) := by
  have hst := run_storeCells_at P g o e z.cells.toList 0 cur w hg (by simpa using hs) h1
  simp only [Nat.add_zero] at hst
  have hr := zero_one z.cells
  simp [Builtin.clear_, run_underlying ht, zeroValue, typeInfo, hi, hz, hr, hst, laid]
theorem wpList_clear1 {ops : Array Oper} {rest : List Oper} {o : Oper} {a : Act} {Q : Exit → Act → World → Prop} (hgd : o.guard = none) (x : Operand) (t : TypeId)
    (ho : o.op = .call { callee := .builtin .clear, args := #[x], argTypes := #[t] })
    (e : TypeId) (i : TypeInfo) (z : Value) (ht : P.underlying t = some (.slice e)) (hi : P.info? e = some i) (hz : i.zero = some z) (h1 : ∀ v ∈ z.cells.toList, v.oneCell' = true)
    (w : World) (g off cap : Nat) (cur : Array Value) (hx : a.eval x = .slice (some ⟨g, off, none⟩) 1 cap) (hg : Blk w g cur e) (hs : off + z.cells.toList.length ≤ cur.size)
    (h : ∀ w', Blk w' g (laid cur off z.cells.toList) e → Upd (fun k => k = g) w w' → wpList P ops Q rest (a.put o.dst (.tuple #[])) w') : wpList P ops Q (o :: rest) a w := by
  refine wpList_plain hgd fun K hK => ?_
  have hrun := run_clear1 (P := P) t o.type e i z ht hi hz h1 w g off cap cur hg hs
  unfold Oper.wp
  simp [execOp, ho, resolve, invoke, builtin, hx, hrun, Result.andThen]
  exact hK _ _ (h _ (setRow_eq w g _ cur e hg).1 (setRow_eq w g _ cur e hg).2)
end
end Go.Proofs.Ytopibbaopglggaa
