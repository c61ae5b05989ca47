/- A ring in memory: what it has, and what the writes of its code do to it. No program in sight. -/
import Derived.Test.YtopibbaopglggaaBase
namespace Go.Proofs.Ytopibbaopglggaa
open Go.RowKit

def slv (g : Option Nat) (len : Nat) : Value := match g with | none => .slice none 0 0 | some g => .slice (some ⟨g, 0, none⟩) len len

/-- The ring at block b: its array is block g, its things are xs, the first one at the place fr. -/
structure RingIn (T E : TypeId) (w : World) (b : Nat) (g : Option Nat) (room : Nat) (xs : List Value) (fr len : Nat) : Prop where
  blk : Blk w b #[slv g len, .int .i64 fr, .int .i64 xs.length, .int .i64 room] T
  le1 : xs.length ≤ len
  le2 : len ≤ room
  le3 : room ≤ 65536
  nil : g = none → len = 0 ∧ fr = 0
  arr : ∀ k, g = some k → k ≠ b ∧ fr < len ∧ ∃ cur : Array Value, Blk w k cur E ∧ cur.size = len ∧ ∀ i v, xs[i]? = some v → cur[(fr + i) % len]? = some v

def RingAt (T E : TypeId) (w : World) (b : Nat) (g : Option Nat) (room : Nat) (xs : List Value) : Prop := ∃ fr len, RingIn T E w b g room xs fr len

/-- The blocks of a ring. -/
def RingOf (b : Nat) (g : Option Nat) : Nat → Prop := fun k => k = b ∨ g = some k

/-- A ring's array is what it was, or new. -/
def SameOrNew (w : World) (g g' : Option Nat) : Prop := ∀ k, g' = some k → g = some k ∨ w.heap.size ≤ k

/-- What a call that changes a ring leaves. -/
def RingTurned (T E : TypeId) (w w' : World) (b : Nat) (g : Option Nat) (room : Nat) (xs : List Value) : Prop :=
  ∃ g', RingAt T E w' b g' room xs ∧ SameOrNew w g g' ∧ Upd (RingOf b g) w w'

def RingGrown (T E : TypeId) (w w' : World) (b : Nat) (g : Option Nat) (room : Nat) (xs : List Value) : Prop :=
  ∃ k fr len, RingIn T E w' b (some k) room xs fr len ∧ xs.length < len ∧ SameOrNew w g (some k) ∧ Upd (RingOf b g) w w'

section
variable {T E : TypeId} {w w' : World} {b : Nat} {g : Option Nat} {room fr len : Nat} {xs : List Value}

theorem SameOrNew.refl (w : World) (g : Option Nat) : SameOrNew w g g := fun _ h => .inl h

theorem RingIn.kept (h : RingIn T E w b g room xs fr len) {S : Nat → Prop} (hu : Upd S w w') (hs : ∀ k, RingOf b g k → ¬ S k) : RingIn T E w' b g room xs fr len :=
  ⟨h.blk.kept hu (hs b (.inl rfl)), h.le1, h.le2, h.le3, h.nil, fun k hk => by
    obtain ⟨h1, h2, cur, h3, h4, h5⟩ := h.arr k hk
    exact ⟨h1, h2, cur, h3.kept hu (hs k (.inr hk)), h4, h5⟩⟩
theorem RingAt.kept (h : RingAt T E w b g room xs) {S : Nat → Prop} (hu : Upd S w w') (hs : ∀ k, RingOf b g k → ¬ S k) : RingAt T E w' b g room xs := by
  obtain ⟨fr, len, h⟩ := h; exact ⟨fr, len, h.kept hu hs⟩
theorem RingIn.drewN (h : RingIn T E w b g room xs fr len) (n : Nat) : RingIn T E (w.drewN n) b g room xs fr len := ⟨h.blk, h.le1, h.le2, h.le3, h.nil, h.arr⟩
theorem RingIn.c0 (h : RingIn T E w b g room xs fr len) : w.cell? ⟨b, 0, none⟩ = some (slv g len) := h.blk.cellAt rfl
theorem RingIn.c1 (h : RingIn T E w b g room xs fr len) : w.cell? ⟨b, 1, none⟩ = some (.int .i64 fr) := h.blk.cellAt rfl
theorem RingIn.c2 (h : RingIn T E w b g room xs fr len) : w.cell? ⟨b, 2, none⟩ = some (.int .i64 xs.length) := h.blk.cellAt rfl
theorem RingIn.c3 (h : RingIn T E w b g room xs fr len) : w.cell? ⟨b, 3, none⟩ = some (.int .i64 room) := h.blk.cellAt rfl
theorem RingIn.lt (h : RingIn T E w b g room xs fr len) : b < w.heap.size := h.blk.lt
theorem RingIn.lts (h : RingIn T E w b g room xs fr len) {k : Nat} (hk : RingOf b g k) : k < w.heap.size := by
  rcases hk with rfl | hk
  · exact h.lt
  · obtain ⟨_, _, cur, h3, _⟩ := h.arr k hk; exact h3.lt
theorem RingAt.lts (h : RingAt T E w b g room xs) {k : Nat} (hk : RingOf b g k) : k < w.heap.size := by
  obtain ⟨_, _, h⟩ := h; exact h.lts hk
theorem RingIn.atI (h : RingIn T E w b g room xs fr len) {i : Nat} {v : Value} (hv : xs[i]? = some v) : ∃ k, g = some k ∧ w.cell? ⟨k, (fr + i) % len, none⟩ = some v := by
  have hi : i < xs.length := by
    rcases Nat.lt_or_ge i xs.length with h' | h'
    · exact h'
    · rw [List.getElem?_eq_none h'] at hv; cases hv
  cases hg : g with
  | none => have := (h.nil hg).1; have := h.le1; omega
  | some k => obtain ⟨_, _, cur, h3, _, h5⟩ := h.arr k hg; exact ⟨k, rfl, h3.cellAt (h5 i v hv)⟩

/-- The write of Put. -/
theorem RingIn.put {k : Nat} (h : RingIn T E w b (some k) room xs fr len) (hl : xs.length < len) (v : Value) (n : Int) (hn : n = xs.length + 1) :
    RingIn T E ((w.setCell ⟨k, (fr + xs.length) % len, none⟩ v).setCell ⟨b, 2, none⟩ (.int .i64 n)) b (some k) room (xs ++ [v]) fr len := by
  subst hn
  obtain ⟨h1, h2, cur, h3, h4, h5⟩ := h.arr k rfl
  have hb := (h.blk.setOther (a := ⟨k, (fr + xs.length) % len, none⟩) (Ne.symm h1) v).set 2 (.int .i64 (xs.length + 1))
  refine ⟨by simpa using hb, by simp; omega, h.le2, h.le3, (fun h => by cases h), fun k' hk' => ?_⟩
  obtain rfl : k = k' := by simpa using hk'
  refine ⟨h1, h2, _, (h3.set _ v).setOther (a := ⟨b, 2, none⟩) h1 _, by simpa using h4, fun i u hu => ?_⟩
  rcases Nat.lt_or_ge i xs.length with hi | hi
  · rw [List.getElem?_append_left hi] at hu
    have hne : (fr + xs.length) % len ≠ (fr + i) % len := by
      intro e
      rcases Nat.lt_or_ge (fr + i) len with ha | ha <;> rcases Nat.lt_or_ge (fr + xs.length) len with hc | hc
      · rw [Nat.mod_eq_of_lt ha, Nat.mod_eq_of_lt hc] at e; omega
      · rw [Nat.mod_eq_of_lt ha, Nat.mod_eq_sub_mod hc, Nat.mod_eq_of_lt (by omega)] at e; omega
      · omega
      · rw [Nat.mod_eq_sub_mod ha, Nat.mod_eq_sub_mod hc, Nat.mod_eq_of_lt (by omega), Nat.mod_eq_of_lt (by omega)] at e; omega
    rw [Array.getElem?_setIfInBounds_ne hne]
    exact h5 i u hu
  · have hi2 : i = xs.length := by
      rcases Nat.lt_or_ge i (xs.length + 1) with h' | h'
      · omega
      · rw [List.getElem?_eq_none (by simp; omega)] at hu; cases hu
    subst hi2
    have hu' : v = u := by simpa using hu
    subst hu'
    have hlt : (fr + xs.length) % len < cur.size := by rw [h4]; exact Nat.mod_lt _ (by omega)
    simp [hlt]

/-- The writes of Take. -/
theorem RingIn.take {k : Nat} {v : Value} (h : RingIn T E w b (some k) room (v :: xs) fr len) {w2 : World} {cur cur' : Array Value} (hu : Upd (fun i => i = k) w w2) (hc0 : Blk w k cur E) (hc : Blk w2 k cur' E)
    (hs : cur'.size = cur.size) (he : ∀ i, i ≠ fr → cur'[i]? = cur[i]?) :
    RingIn T E ((w2.setCell ⟨b, 1, none⟩ (.int .i64 ((fr + 1) % len : Nat))).setCell ⟨b, 2, none⟩ (.int .i64 xs.length)) b (some k) room xs ((fr + 1) % len) len := by
  obtain ⟨h1, h2, cur0, h3, h4, h5⟩ := h.arr k rfl
  obtain rfl : cur = cur0 := by
    unfold Blk at hc0 h3; rw [hc0] at h3; injection h3 with h3; injection h3
  have hb := ((h.blk.kept hu (Ne.symm h1)).set 1 (.int .i64 ((fr + 1) % len : Nat))).set 2 (.int .i64 xs.length)
  have hl1 := h.le1
  simp only [List.length_cons] at hl1
  refine ⟨by simpa using hb, by omega, h.le2, h.le3, (fun h => by cases h), fun k' hk' => ?_⟩
  obtain rfl : k = k' := by simpa using hk'
  refine ⟨h1, Nat.mod_lt _ (by omega), cur', (hc.setOther (a := ⟨b, 1, none⟩) h1 _).setOther (a := ⟨b, 2, none⟩) h1 _, by omega, fun i u hu => ?_⟩
  have hi : i < xs.length := by
    rcases Nat.lt_or_ge i xs.length with h' | h'
    · exact h'
    · rw [List.getElem?_eq_none h'] at hu; cases hu
  have e : ((fr + 1) % len + i) % len = (fr + (i + 1)) % len := by rw [Nat.mod_add_mod]; congr 1; omega
  rw [e, he _ (fun e2 => ?_)]
  · exact h5 (i + 1) u (by simpa using hu)
  · rcases Nat.lt_or_ge (fr + (i + 1)) len with ha | ha
    · rw [Nat.mod_eq_of_lt ha] at e2; omega
    · rw [Nat.mod_eq_sub_mod ha, Nat.mod_eq_of_lt (by omega)] at e2; omega

/-- All that is touched lies from B on. -/
theorem own_step {B : Nat} {w1 w2 : World} {g2 : Option Nat} (A : Upd (fun k => B ≤ k) w w1) (hB : B ≤ w.heap.size) (G : ∀ k, RingOf b g k → B ≤ k) (hs : SameOrNew w1 g g2) (hu : Upd (RingOf b g) w1 w2) :
    Upd (fun k => B ≤ k) w w2 ∧ ∀ k, RingOf b g2 k → B ≤ k :=
  ⟨A.trans hu (fun k _ hk => G k hk), fun k hk => by
    rcases hk with rfl | hk
    · exact G _ (.inl rfl)
    · rcases hs k hk with h | h
      · exact G k (.inr h)
      · have := A.size; omega⟩

theorem Upd.two {S : Nat → Prop} {w : World} {a a' : Addr} (h : S a.block) (h' : S a'.block) (v v' : Value) : Upd S w ((w.setCell a v).setCell a' v') :=
  ((Upd.refl S w).setCell (fun _ => h) v).setCell (fun _ => h') v'
end
end Go.Proofs.Ytopibbaopglggaa
