/- aifo's gate in memory; what writes do to it. No program in sight. -/
import Derived.Test.YtgppbclgabdkoaaAifoPlain
import Derived.Test.YtgppbclgabdkoaaRingCore
namespace Go.Proofs.Ytgppbclgabdkoaa.Aifo
open Go.RowKit
/-- A gate at block b: its window is the ring at rb, its rising numbers rs are the slice rv. -/
structure GateIn (T TR TE : TypeId) (w : World) (b rb : Nat) (rg : Option Nat) (rv : Value) (room most wait num den : Nat) (win rs : List Int) : Prop where
  blk : Blk w b #[.pointer (some ⟨rb, 0, none⟩), rv, .int .i64 room, .int .i64 wait, .int .u64 num, .int .u64 den] T
  ring : RingAt TR TE w rb rg most (win.map (.int .u64 ·))
  row : Rising w rv rs
  perm : rs.Perm win
  srt : rs.Pairwise (· ≤ ·)
  r1 : 1 ≤ room
  r2 : room ≤ 4096
  r3 : wait ≤ room
  m1 : 1 ≤ most
  m2 : most ≤ 1024
  m3 : win.length ≤ most
  d1 : num < den
  d2 : den ≤ 65536
  off : ∀ k, RingOf rb rg k → k ≠ b
  voff : ∀ k, rv.ownBlock = some k → k ≠ b ∧ ¬ RingOf rb rg k
/-- The blocks of a gate. -/
def GateOf (b rb : Nat) (rg : Option Nat) (rv : Value) : Nat → Prop := fun k => k = b ∨ RingOf rb rg k ∨ rv.ownBlock = some k
section
variable {T TR TE : TypeId} {w w' : World} {b rb : Nat} {rg : Option Nat} {rv : Value} {room most wait num den : Nat} {win rs : List Int}
theorem GateIn.len (h : GateIn T TR TE w b rb rg rv room most wait num den win rs) : rs.length = win.length := h.perm.length_eq
theorem GateIn.lts (h : GateIn T TR TE w b rb rg rv room most wait num den win rs) {k : Nat} (hk : GateOf b rb rg rv k) : k < w.heap.size := by
  rcases hk with rfl | hk | hk
  · exact h.blk.lt
  · exact h.ring.lts hk
  · exact h.row.lt hk
theorem GateIn.kept (h : GateIn T TR TE w b rb rg rv room most wait num den win rs) {S : Nat → Prop} (hu : Upd S w w') (hs : ∀ k, GateOf b rb rg rv k → ¬ S k) : GateIn T TR TE w' b rb rg rv room most wait num den win rs :=
  { h with blk := h.blk.kept hu (hs b (.inl rfl)), ring := h.ring.kept hu (fun k hk => hs k (.inr (.inl hk))), row := h.row.upd hu (fun k hk => hs k (.inr (.inr hk))) }
theorem GateIn.old (h : GateIn T TR TE w b rb rg rv room most wait num den win rs) (hu : Upd Nowhere w w') : GateIn T TR TE w' b rb rg rv room most wait num den win rs := h.kept hu (fun _ _ h => h)
/-- How many wait, written. -/
theorem GateIn.setW (h : GateIn T TR TE w b rb rg rv room most wait num den win rs) (c : Nat) (hc : c ≤ room) : GateIn T TR TE (w.setCell ⟨b, 3, none⟩ (.int .i64 c)) b rb rg rv room most c num den win rs := by
  have hu : Upd (fun k => k = b) w (w.setCell ⟨b, 3, none⟩ (.int .i64 c)) := Upd.setCell (S := fun k => k = b) (Upd.refl _ _) (fun _ => rfl) _
  exact { h with blk := by simpa using h.blk.set 3 (.int .i64 c), r3 := hc, ring := h.ring.kept hu (fun k hk e => h.off k hk e), row := h.row.upd hu (fun k hk e => (h.voff k hk).1 e) }
/-- What a gate that turned leaves: its blocks are what they were, or new. -/
def GateTurned (T TR TE : TypeId) (w w' : World) (b rb : Nat) (rg : Option Nat) (rv : Value) (room most wait num den : Nat) (win : List Int) : Prop :=
  ∃ rg' rv' rs', GateIn T TR TE w' b rb rg' rv' room most wait num den win rs' ∧ (∀ k, GateOf b rb rg' rv' k → GateOf b rb rg rv k ∨ w.heap.size ≤ k) ∧ Upd (GateOf b rb rg rv) w w'
end
/-- A gate that was made since w0, off the blocks of A. -/
def HasG (T TR TE : TypeId) (A : Nat → Prop) (w0 w : World) (b room most wait num den : Nat) (win : List Int) : Prop :=
  ∃ rb rg rv rs, GateIn T TR TE w b rb rg rv room most wait num den win rs ∧ (∀ k, GateOf b rb rg rv k → w0.heap.size ≤ k ∧ ¬ A k) ∧ w0.heap.size ≤ w.heap.size
section
variable {T TR TE : TypeId} {A A' : Nat → Prop} {w0 w w' : World} {b room most wait num den : Nat} {win : List Int}
theorem HasG.kept (h : HasG T TR TE A w0 w b room most wait num den win) {S : Nat → Prop} (hu : Upd S w w') (hS : ∀ k, S k → k < w.heap.size → A k ∨ k < w0.heap.size) : HasG T TR TE A w0 w' b room most wait num den win := by
  obtain ⟨rb, rg, rv, rs, h1, h2, h3⟩ := h
  refine ⟨rb, rg, rv, rs, h1.kept hu (fun k hk hSk => ?_), h2, Nat.le_trans h3 hu.size⟩
  rcases hS k hSk (h1.lts hk) with h | h
  · exact (h2 k hk).2 h
  · exact absurd (h2 k hk).1 (Nat.not_le.2 h)
theorem HasG.old (h : HasG T TR TE A w0 w b room most wait num den win) (hu : Upd Nowhere w w') : HasG T TR TE A w0 w' b room most wait num den win := h.kept hu (fun _ h _ => h.elim)
/-- Other blocks to be off: old ones of A, or new ones. -/
theorem HasG.re (h : HasG T TR TE A w0 w b room most wait num den win) (hA : ∀ k, A' k → A k ∨ w.heap.size ≤ k) : HasG T TR TE A' w0 w b room most wait num den win := by
  obtain ⟨rb, rg, rv, rs, h1, h2, h3⟩ := h
  exact ⟨rb, rg, rv, rs, h1, fun k hk => ⟨(h2 k hk).1, fun hk' => (hA k hk').elim (h2 k hk).2 (fun h => Nat.not_le.2 (h1.lts hk) h)⟩, h3⟩
/-- A gate that turned, off the same blocks. -/
theorem HasG.turned {rb : Nat} {rg : Option Nat} {rv : Value} {wait' : Nat} {win' : List Int} (h2 : ∀ k, GateOf b rb rg rv k → w0.heap.size ≤ k ∧ ¬ A k) (h3 : w0.heap.size ≤ w.heap.size) (hA : ∀ k, A k → k < w.heap.size)
    (t : GateTurned T TR TE w w' b rb rg rv room most wait' num den win') : HasG T TR TE A w0 w' b room most wait' num den win' ∧ Upd (fun k => w0.heap.size ≤ k ∧ ¬ A k) w w' := by
  obtain ⟨rg', rv', rs', t1, t2, t3⟩ := t
  refine ⟨⟨rb, rg', rv', rs', t1, fun k hk => ?_, Nat.le_trans h3 t3.size⟩, t3.mono (fun k _ h => h2 k h)⟩
  rcases t2 k hk with h | h
  · exact h2 k h
  · exact ⟨by omega, fun ha => by have := hA k ha; omega⟩
end
end Go.Proofs.Ytgppbclgabdkoaa.Aifo
