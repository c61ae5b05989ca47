/- An append as a step of a region that draws its order; two rows that grow side by side. No program in sight. -/
import Derived.Test.YtjbaibnmbeabnaaGreatDoorLaws
import Derived.Deep.RegionLaw
namespace Go.Proofs.YtjbaibnmbeabnaaGreatDoor
open Go.RowKit
section
variable {P : Program}
theorem step_push {ops : Array Oper} {o : Oper} {a : Act} {K : Act → World → Prop} {Q : Exit → Act → World → Prop} {E : Prop} {w : World} (hgd : o.guard = none) (s x : Operand) (t : TypeId)
    (ho : o.op = .call { callee := .builtin .append, args := #[s, x], argTypes := #[t, t] })
    (base : Nat) (e : TypeId) (i : TypeInfo) (z : Value) (size bytes : Nat) (ht : P.underlying t = some (.slice e)) (hi : P.info? e = some i) (hz : i.zero = some z)
    (hsize : i.size = size) (hby : i.bytes = bytes) (hzs : z.cells.size = size) (hsz : 0 < size) (hbs : bytes ≤ 4096)
    (v : Value) (n : Nat) (xs : List Value) (hs : a.eval s = v) (hown : w.ownsRow base e size v n xs)
    (g c : Nat) (news : List Value) (hx : a.eval x = .slice (some ⟨g, 0, none⟩) 1 c) (hl : news.length = size) (hnews : ∀ j u, news[j]? = some u → w.cell? ⟨g, j, none⟩ = some u) (h1 : ∀ u ∈ news, u.oneCell' = true)
    (hn : n ≤ 999999999) (hbase : base ≤ w.heap.size)
    (h : ∀ v' w', w'.ownsRow base e size v' (n + 1) (xs ++ news) → Upd (fun k => v.ownBlock = some k) w w' → OwnOrNew w v v' → K (a.put o.dst v') w') : if Region.wanted o (yielded ops a.tmps) = true then Oper.wp P o a w K Q else E := by
  have hw : Region.wanted o (yielded ops a.tmps) = true := by simp [Region.wanted, hgd]
  rw [if_pos hw]
  have hb : (n + 1) * bytes ≤ 140737488355328 := by
    have : (n + 1) * bytes ≤ 1000000000 * 4096 := Nat.mul_le_mul (by omega) hbs
    omega
  obtain ⟨v', w', hr, h2, h3, _, h5⟩ := run_app (P := P) w base t o.type e i z size bytes ht hi hz hsize hby hzs hsz v n xs hown ⟨g, 0, none⟩ 1 c news (by simpa using hl) (fun j u hu => by
    have e : (⟨g, 0, none⟩ : Addr).add j = ⟨g, j, none⟩ := by rw [add_at, Nat.zero_add]
    rw [e]; exact hnews j u hu) h1 (by unfold maxLen; omega) hb hbase
  unfold Oper.wp execOp
  simp only [ho, resolve, invoke, builtin, Sem.run_bind, Sem.run_pure, Result.andThen_ok, List.map_toArray, List.map_cons, List.map_nil, hs, hx, hr]
  exact h v' w' h2 ((Upd.refl _ w).grown h3 (fun k _ hk => hk)) h5
end
/-- Two rows that the call made, apart from each other and from block b. -/
structure Two (E : TypeId) (B : Nat) (w wr : World) (b : Nat) (pv gv : Value) (P G : List Value) : Prop where
  upd : Upd (fun k => B ≤ k) w wr
  low : B ≤ w.heap.size
  blt : b < wr.heap.size
  put : wr.ownsRow B E 1 pv P.length P
  got : wr.ownsRow B E 1 gv G.length G
  pb : pv.ownBlock ≠ some b
  gb : gv.ownBlock ≠ some b
  apart : ∀ k, pv.ownBlock = some k → gv.ownBlock ≠ some k
section
variable {E : TypeId} {B : Nat} {w wr w1 : World} {b : Nat} {pv gv : Value} {P G : List Value}
theorem Two.base (h : Two E B w wr b pv gv P G) : B ≤ wr.heap.size := Nat.le_trans h.low h.upd.size
theorem Two.old (h : Two E B w wr b pv gv P G) (hu : Upd Nowhere wr w1) : Two E B w w1 b pv gv P G :=
  ⟨h.upd.trans hu (fun _ _ h => h.elim), h.low, Nat.lt_of_lt_of_le h.blt hu.size, ownsRow_upd h.put hu (fun _ _ h => h), ownsRow_upd h.got hu (fun _ _ h => h), h.pb, h.gb, h.apart⟩
theorem Two.alloc (h : Two E B w wr b pv gv P G) (o : Obj) : Two E B w (wr.alloc o) b pv gv P G := h.old ((Upd.refl _ _).alloc o)
theorem Two.drew (h : Two E B w wr b pv gv P G) : Two E B w wr.drew b pv gv P G := h.old (Upd.refl _ _).drew
theorem Two.setCell (h : Two E B w wr b pv gv P G) {a : Addr} (ha : B ≤ a.block) (hp : pv.ownBlock ≠ some a.block) (hg : gv.ownBlock ≠ some a.block) (v : Value) : Two E B w (wr.setCell a v) b pv gv P G := by
  have hu : Upd (fun k => k = a.block) wr (wr.setCell a v) := Upd.setCell (S := fun k => k = a.block) (Upd.refl _ _) (fun _ => rfl) v
  exact ⟨h.upd.setCell (fun _ => ha) v, h.low, Nat.lt_of_lt_of_le h.blt hu.size, ownsRow_upd h.put hu (fun k hk e => hp (by rw [hk, e])), ownsRow_upd h.got hu (fun k hk e => hg (by rw [hk, e])), h.pb, h.gb, h.apart⟩
theorem Two.put3 (h : Two E B w wr b pv gv P G) (hb : B ≤ b) (v0 v1 v2 : Value) : Two E B w (((wr.setCell ⟨b, 0, none⟩ v0).setCell ⟨b, 1, none⟩ v1).setCell ⟨b, 2, none⟩ v2) b pv gv P G :=
  ((h.setCell (a := ⟨b, 0, none⟩) hb h.pb h.gb v0).setCell (a := ⟨b, 1, none⟩) hb h.pb h.gb v1).setCell (a := ⟨b, 2, none⟩) hb h.pb h.gb v2
theorem Two.pushP (h : Two E B w wr b pv gv P G) {pv' : Value} {x : Value} (ho : w1.ownsRow B E 1 pv' (P.length + 1) (P ++ [x])) (hu : Upd (fun k => pv.ownBlock = some k) wr w1) (hn : OwnOrNew wr pv pv') :
    Two E B w w1 b pv' gv (P ++ [x]) G := by
  refine ⟨h.upd.trans hu (fun k _ hk => (h.put.lt k hk).1), h.low, Nat.lt_of_lt_of_le h.blt hu.size, by simpa using ho, ownsRow_upd h.got hu (fun k hk hp => h.apart k hp hk), fun e => ?_, h.gb, fun k hk hg => ?_⟩
  · rcases hn b e with h4 | h4
    · exact h.pb h4
    · exact absurd h.blt (Nat.not_lt.2 h4)
  · rcases hn k hk with h4 | h4
    · exact h.apart k h4 hg
    · exact absurd (h.got.lt k hg).2 (Nat.not_lt.2 h4)
theorem Two.pushG (h : Two E B w wr b pv gv P G) {gv' : Value} {x : Value} (ho : w1.ownsRow B E 1 gv' (G.length + 1) (G ++ [x])) (hu : Upd (fun k => gv.ownBlock = some k) wr w1) (hn : OwnOrNew wr gv gv') :
    Two E B w w1 b pv gv' P (G ++ [x]) := by
  refine ⟨h.upd.trans hu (fun k _ hk => (h.got.lt k hk).1), h.low, Nat.lt_of_lt_of_le h.blt hu.size, ownsRow_upd h.put hu (fun k hk hp => h.apart k hk hp), by simpa using ho, h.pb, fun e => ?_, fun k hk hg => ?_⟩
  · rcases hn b e with h4 | h4
    · exact h.gb h4
    · exact absurd h.blt (Nat.not_lt.2 h4)
  · rcases hn k hg with h4 | h4
    · exact h.apart k hk h4
    · exact absurd (h.put.lt k hk).2 (Nat.not_lt.2 h4)
end
end Go.Proofs.YtjbaibnmbeabnaaGreatDoor
