/- Base: a world's change is told by the set of blocks that it may touch; struct blocks and rows; small laws for walks. No program in sight. -/
import Derived.WalkKit
import Derived.WalkSpells
import Derived.WalkLawsBesides
import Derived.Deep.QuietTactic
import Derived.BigQuiet
import Derived.StillTailTactics
import Derived.BigRegion
namespace Go.Proofs.YtjbaibnmbeabnaaGreatDoor
open Go.RowKit

/-- Blocks outside S are as they were; none has gone. -/
structure Upd (S : Nat → Prop) (w w' : World) : Prop where
  os : w'.os = w.os
  tape : w'.tape = w.tape
  output : w'.output = w.output
  size : w.heap.size ≤ w'.heap.size
  block : ∀ k, k < w.heap.size → ¬ S k → w'.heap[k]? = w.heap[k]?

/-- No old block is touched. -/
def Nowhere : Nat → Prop := fun _ => False

section
variable {S T : Nat → Prop} {w w' w'' : World}
theorem Upd.refl (S : Nat → Prop) (w : World) : Upd S w w := ⟨rfl, rfl, rfl, Nat.le_refl _, fun _ _ _ => rfl⟩
theorem Upd.mono (h : Upd S w w') (hs : ∀ k, k < w.heap.size → S k → T k) : Upd T w w' :=
  ⟨h.os, h.tape, h.output, h.size, fun k hk hn => h.block k hk (fun hs' => hn (hs k hk hs'))⟩
theorem Upd.trans (h : Upd S w w') (h' : Upd T w' w'') (hs : ∀ k, k < w.heap.size → T k → S k) : Upd S w w'' :=
  ⟨h'.os.trans h.os, h'.tape.trans h.tape, h'.output.trans h.output, Nat.le_trans h.size h'.size,
   fun k hk hn => (h'.block k (Nat.lt_of_lt_of_le hk h.size) (fun ht => hn (hs k hk ht))).trans (h.block k hk hn)⟩
theorem Upd.any (h : Upd Nowhere w w') (S : Nat → Prop) : Upd S w w' := h.mono (fun _ _ h => h.elim)
theorem Upd.drewN (h : Upd S w w') (n : Nat) : Upd S w (w'.drewN n) := ⟨h.os, h.tape, h.output, h.size, h.block⟩
theorem Upd.drew (h : Upd S w w') : Upd S w w'.drew := ⟨h.os, h.tape, h.output, h.size, h.block⟩
theorem Upd.alloc (h : Upd S w w') (o : Obj) : Upd S w (w'.alloc o) :=
  ⟨h.os, h.tape, h.output, Nat.le_trans h.size (by simp), fun k hk hn => (Below.heap_alloc _ _ _ (Nat.lt_of_lt_of_le hk h.size)).trans (h.block k hk hn)⟩
theorem Upd.setCell (h : Upd S w w') {a : Addr} (ha : a.block < w.heap.size → S a.block) (v : Value) : Upd S w (w'.setCell a v) :=
  ⟨h.os, h.tape, h.output, by simpa using h.size, fun k hk hn => (Below.heap_setCell _ _ _ _ (fun e => by subst e; exact hn (ha hk))).trans (h.block k hk hn)⟩
theorem Upd.setNew (h : Upd S w w') {a : Addr} (ha : w.heap.size ≤ a.block) (v : Value) : Upd S w (w'.setCell a v) :=
  h.setCell (fun h' => absurd h' (Nat.not_lt.2 ha)) v
theorem Upd.grown {row : Option Nat} (h : Upd S w w') (hg : w'.grownBy w'' row) (hr : ∀ k, k < w.heap.size → row = some k → S k) : Upd S w w'' :=
  h.trans (T := fun k => row = some k) ⟨hg.os, hg.tape, hg.output, hg.size, fun k hk hn => hg.block k hk (fun e => hn e.symm)⟩ hr
theorem Upd.below (h : Upd S w w') {B : Nat} (hB : B ≤ w.heap.size) (hs : ∀ k, k < B → ¬ S k) : Below B w w' :=
  ⟨h.os, h.tape, h.output, h.size, fun k hk => h.block k (Nat.lt_of_lt_of_le hk hB) (hs k hk)⟩
theorem Upd.nowhere (h : Upd (fun k => w.heap.size ≤ k) w w') : Upd Nowhere w w' := h.mono (fun _ hk h => absurd hk (Nat.not_lt.2 h))
theorem Upd.to_below (h : Upd Nowhere w w') : Below w.heap.size w w' := h.below (Nat.le_refl _) (fun _ _ h => h)
theorem Upd.of_below {B : Nat} (h : Below B w w') (hs : ∀ k, k < w.heap.size → B ≤ k → S k) : Upd S w w' :=
  ⟨h.os, h.tape, h.output, h.size, fun k hk hn => h.block k (Nat.lt_of_not_le (fun hle => hn (hs k hk hle)))⟩
theorem Upd.cell (h : Upd S w w') {b : Nat} (o : Nat) (hb : b < w.heap.size) (hs : ¬ S b) : w'.cell? ⟨b, o, none⟩ = w.cell? ⟨b, o, none⟩ :=
  World.cell?_of_block (w := w) (h.block b hb hs)
theorem Upd.frozen (h : Upd S w w') {b : Nat} (o : Nat) (hb : b < w.heap.size) (hs : ¬ S b) : w'.frozen? ⟨b, o, none⟩ = w.frozen? ⟨b, o, none⟩ :=
  World.frozen?_of_block (w := w) (h.block b hb hs)
end

/-- Block b holds these cells. -/
def Blk (w : World) (b : Nat) (c : Array Value) (t : TypeId) : Prop := w.heap[b]? = some (.cells c t (0, 0))
section
variable {w w' : World} {b : Nat} {c : Array Value} {t : TypeId}
theorem Blk.lt (h : Blk w b c t) : b < w.heap.size := by
  rcases Nat.lt_or_ge b w.heap.size with h' | h'
  · exact h'
  · unfold Blk at h; rw [Array.getElem?_eq_none h'] at h; cases h
theorem Blk.cell (h : Blk w b c t) (i : Nat) : w.cell? ⟨b, i, none⟩ = c[i]? := by
  unfold Blk at h; simp [World.cell?, h]
theorem Blk.cellAt (h : Blk w b c t) {i : Nat} {v : Value} (hv : c[i]? = some v) : w.cell? ⟨b, i, none⟩ = some v := by rw [h.cell, hv]
theorem Blk.free (h : Blk w b c t) (i : Nat) : w.frozen? ⟨b, i, none⟩ = false := by
  unfold Blk at h; simp [World.frozen?, h]
theorem Blk.kept (h : Blk w b c t) {S : Nat → Prop} (hu : Upd S w w') (hs : ¬ S b) : Blk w' b c t := (hu.block b h.lt hs).trans h
theorem Blk.drewN (h : Blk w b c t) (n : Nat) : Blk (w.drewN n) b c t := h
theorem Blk.drew (h : Blk w b c t) : Blk w.drew b c t := h
theorem Blk.alloc (h : Blk w b c t) (o : Obj) : Blk (w.alloc o) b c t := (Below.heap_alloc _ _ _ h.lt).trans h
theorem Blk.setOther (h : Blk w b c t) {a : Addr} (ha : b ≠ a.block) (v : Value) : Blk (w.setCell a v) b c t := (Below.heap_setCell _ _ _ _ ha).trans h
theorem Blk.set (h : Blk w b c t) (i : Nat) (v : Value) : Blk (w.setCell ⟨b, i, none⟩ v) b (c.setIfInBounds i v) t := by
  unfold Blk at *
  have hb := Blk.lt h
  simp only [World.setCell, Array.getElem?_modify, h]
  simp
theorem Blk.new (w : World) (c : Array Value) (t : TypeId) : Blk (w.alloc (.cells c t)) w.heap.size c t := by
  unfold Blk; show (w.heap.push _)[w.heap.size]? = _; simp
theorem Blk.own {base : Nat} {e : TypeId} {size n cap : Nat} {g : Nat} {xs : List Value} (h : w.ownsRow base e size (.slice (some ⟨g, 0, none⟩) n cap) n xs) :
    ∃ cur, Blk w g cur e ∧ base ≤ g ∧ n ≤ cap ∧ cur.size = cap * size ∧ cur.toList.take (n * size) = xs := by
  obtain ⟨_, h | ⟨g', cap', cur, hv, hb, hg, h1, _, h2, h3⟩⟩ := h
  · obtain ⟨h, _⟩ := h; cases h
  · cases hv; exact ⟨cur, hg, hb, h1, h2, h3⟩
end

theorem add_at (g o j : Nat) : (⟨g, o, none⟩ : Addr).add j = ⟨g, o + j, none⟩ := by
  unfold Addr.add
  split
  · next h => subst h; rfl
  · rfl
theorem ret_int {k : IntKind} {a b : Int} (h : a = b) : Ending.returned (.int k a) = .returned (.int k b) := by rw [h]
theorem ret_bool {a b : Bool} (h : a = b) : Ending.returned (.bool a) = .returned (.bool b) := by rw [h]
end Go.Proofs.YtjbaibnmbeabnaaGreatDoor
