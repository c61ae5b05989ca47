/- What was put is taken in the order in which it was put. -/
import Derived.Test.YtcjneckhaempkaaRingI3
import Derived.Test.YtcjneckhaempkaaRingI4
import Derived.Test.YtcjneckhaempkaaRingLives
import Derived.Test.YtcjneckhaempkaaRef06
namespace Go.Proofs.Ytcjneckhaempkaa.RingOrder
open Go.RowKit Go.Proofs BigFrame
open Ref06 (ints ints_len ints_at)
open RingI (TR TE)

/-- What stands in memory in the law's loops: a ring with R, a row with what was put (P), a row with what was taken (G). -/
structure St (B : Nat) (w wr : World) (b : Nat) (g : Option Nat) (room : Nat) (pv gv : Value) (P G R : List Int) : Prop where
  upd : Upd (fun k => B ≤ k) w wr
  low : B ≤ w.heap.size
  ring : RingAt TR TE wr b g room (ints R)
  from_ : ∀ k, RingOf b g k → B ≤ k ∧ pv.ownBlock ≠ some k ∧ gv.ownBlock ≠ some k
  put : wr.ownsRow B TE 1 pv P.length (ints P)
  got : wr.ownsRow B TE 1 gv G.length (ints G)
  apart : ∀ k, pv.ownBlock = some k → gv.ownBlock ≠ some k

section
variable {B : Nat} {w wr w1 : World} {b : Nat} {g : Option Nat} {room : Nat} {pv gv : Value} {P G R : List Int}

theorem St.base (h : St B w wr b g room pv gv P G R) : B ≤ wr.heap.size := Nat.le_trans h.low h.upd.size
theorem St.drewN (h : St B w wr b g room pv gv P G R) (n : Nat) : St B w (wr.drewN n) b g room pv gv P G R := by
  obtain ⟨fr, len, hr⟩ := h.ring
  exact ⟨h.upd.drewN n, h.low, ⟨fr, len, hr.drewN n⟩, h.from_, h.put, h.got, h.apart⟩

theorem St.turn (h : St B w wr b g room pv gv P G R) {R' : List Int} (t : RingTurned TR TE wr w1 b g room (ints R')) : ∃ g', St B w w1 b g' room pv gv P G R' := by
  obtain ⟨g', hr, hs, hu⟩ := t
  refine ⟨g', h.upd.trans hu (fun k _ hk => (h.from_ k hk).1), h.low, hr, fun k hk => ?_, ?_, ?_, h.apart⟩
  · rcases hk with rfl | hk
    · exact h.from_ _ (.inl rfl)
    · rcases hs k hk with h1 | h1
      · exact h.from_ k (.inr h1)
      · exact ⟨Nat.le_trans h.base h1, fun e => absurd (h.put.lt k e).2 (Nat.not_lt.2 h1), fun e => absurd (h.got.lt k e).2 (Nat.not_lt.2 h1)⟩
  · exact ownsRow_upd h.put hu (fun k hk hn => (h.from_ k hn).2.1 hk)
  · exact ownsRow_upd h.got hu (fun k hk hn => (h.from_ k hn).2.2 hk)

theorem St.old (h : St B w wr b g room pv gv P G R) (hu : Upd Nowhere wr w1) : St B w w1 b g room pv gv P G R :=
  ⟨h.upd.trans hu (fun _ _ h => h.elim), h.low, h.ring.kept hu (fun _ _ h => h), h.from_, ownsRow_upd h.put hu (fun _ _ h => h), ownsRow_upd h.got hu (fun _ _ h => h), h.apart⟩

theorem St.alloc (h : St B w wr b g room pv gv P G R) (o : Obj) : St B w (wr.alloc o) b g room pv gv P G R := by
  have hu : Upd Nowhere wr (wr.alloc o) := (Upd.refl _ _).alloc o
  exact ⟨h.upd.alloc o, h.low, h.ring.kept hu (fun _ _ h => h), h.from_, h.put.alloc o, h.got.alloc o, h.apart⟩

theorem St.pushP (h : St B w wr b g room pv gv P G R) {pv' : Value} {x : Int} (ho : w1.ownsRow B TE 1 pv' (P.length + 1) (ints P ++ [.int .i64 x])) (hu : Upd (fun k => pv.ownBlock = some k) wr w1) (hn : OwnOrNew wr pv pv') :
    St B w w1 b g room pv' gv (P ++ [x]) G R := by
  refine ⟨h.upd.trans hu (fun k _ hk => (h.put.lt k hk).1), h.low, h.ring.kept hu (fun k hk hp => (h.from_ k hk).2.1 hp), fun k hk => ?_, by simpa [ints] using ho, ownsRow_upd h.got hu (fun k hk hp => h.apart k hp hk), fun k hk hg => ?_⟩
  · obtain ⟨h1, h2, h3⟩ := h.from_ k hk
    refine ⟨h1, fun e => ?_, h3⟩
    rcases hn k e with h4 | h4
    · exact h2 h4
    · exact absurd (h.ring.lts hk) (Nat.not_lt.2 h4)
  · rcases hn k hk with h4 | h4
    · exact h.apart k h4 hg
    · exact absurd (h.got.lt k hg).2 (Nat.not_lt.2 h4)

theorem St.pushG (h : St B w wr b g room pv gv P G R) {gv' : Value} {l : List Int} {n : Nat} (ho : w1.ownsRow B TE 1 gv' n (ints G ++ ints l)) (hu : Upd (fun k => gv.ownBlock = some k) wr w1) (hn : OwnOrNew wr gv gv') :
    St B w w1 b g room pv gv' P (G ++ l) R := by
  have hlen : n = (G ++ l).length := by have := ho.1; simp [ints] at this; simp; omega
  refine ⟨h.upd.trans hu (fun k _ hk => (h.got.lt k hk).1), h.low, h.ring.kept hu (fun k hk hp => (h.from_ k hk).2.2 hp), fun k hk => ?_, ownsRow_upd h.put hu (fun k hk hp => h.apart k hk hp), by rw [← hlen]; simpa [ints] using ho, fun k hk hg => ?_⟩
  · obtain ⟨h1, h2, h3⟩ := h.from_ k hk
    refine ⟨h1, h2, fun e => ?_⟩
    rcases hn k e with h4 | h4
    · exact h3 h4
    · exact absurd (h.ring.lts hk) (Nat.not_lt.2 h4)
  · rcases hn k hg with h4 | h4
    · exact h.apart k hk h4
    · exact absurd (h.put.lt k hk).2 (Nat.not_lt.2 h4)
end
end Go.Proofs.Ytcjneckhaempkaa.RingOrder
