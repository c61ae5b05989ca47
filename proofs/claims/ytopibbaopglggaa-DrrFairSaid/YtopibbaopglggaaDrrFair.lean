/- DrrFair: the walk. -/
import Derived.Test.YtopibbaopglggaaDrrOrder2
import Derived.Test.YtopibbaopglggaaDrrFairPlain
import Derived.Test.YtopibbaopglggaaSat
import Derived.Test.YtopibbaopglggaaKeep
import Derived.Deep.RegionHeld3
namespace Go.Proofs.Ytopibbaopglggaa.Drr
open Go.RowKit Go.Proofs BigFrame
open Wide (dg Gives)
set_option maxHeartbeats 16000000
set_option maxRecDepth 1000000
abbrev TP : TypeId := 51
abbrev T3 : TypeId := 44
theorem infoP : (Try.prog.info? TP).map (fun i => (i.zero, i.size, i.bytes)) = some (some (.agg #[.int .u64 0, .int .u64 0]), 2, 16) := by kernel_rfl
theorem Sizes.push {its : Items} {M : Nat} (h : Sizes its M) (c s : Nat) (b : Int) : Sizes (upd its c (its c ++ [(s, b)])) (max M s) := fun i x hx => by
  by_cases hic : i = c
  · subst hic; rw [upd_at] at hx
    rcases List.mem_append.1 hx with hx | hx
    · have := h i x hx; omega
    · simp only [List.mem_singleton] at hx; subst hx; simp only; omega
  · rw [upd_ne _ _ hic] at hx; have := h i x hx; omega
theorem Sizes.pop {its : Items} {M : Nat} (h : Sizes its M) {c : Nat} {x : Nat × Int} {tl : List (Nat × Int)} (hx : its c = x :: tl) : Sizes (upd its c tl) M := fun i y hy => by
  by_cases hic : i = c
  · subst hic; rw [upd_at] at hy; exact h i y (by rw [hx]; exact List.mem_cons_of_mem _ hy)
  · rw [upd_ne _ _ hic] at hy; exact h i y hy
abbrev TW : TypeId := 56
theorem keep2 {w w' B : World} {a0 a1 : Addr} {v0 v1 : Value} (y : Upd Nowhere w w') (h : Upd Nowhere B w ∧ w.cell? a0 = some v0 ∧ w.cell? a1 = some v1) : Upd Nowhere B w' ∧ w'.cell? a0 = some v0 ∧ w'.cell? a1 = some v1 := by
  obtain ⟨hu, h0, h1⟩ := h
  exact ⟨hu.trans y (fun _ _ h => h), cell_old y h0, cell_old y h1⟩
theorem keepM2 {P : Program} {f : FuncId} {args : Array Value} {w B : World} {V : Value} {a0 a1 : Addr} {v0 v1 : Value} (h : Calls P f args w fun e w' => e = .returned V ∧ Upd Nowhere w w') (hS : Upd Nowhere B w ∧ w.cell? a0 = some v0 ∧ w.cell? a1 = some v1) :
    Calls P f args w fun e w' => e = .returned V ∧ Upd Nowhere w w' ∧ (Upd Nowhere B w' ∧ w'.cell? a0 = some v0 ∧ w'.cell? a1 = some v1) := h.mono fun _ _ ⟨x, y⟩ => ⟨x, y, keep2 y hS⟩
theorem keepP2 {w B : World} {g : Nat} {a0 a1 : Addr} {v0 v1 u0 u1 u2 u3 : Value} (h : Upd Nowhere B w ∧ w.cell? a0 = some v0 ∧ w.cell? a1 = some v1) (hg : B.heap.size ≤ g) (b0 : a0.block < B.heap.size) (b1 : a1.block < B.heap.size) :
    Upd Nowhere B ((((w.setCell ⟨g, 0, none⟩ u0).setCell ⟨g, 1, none⟩ u1).setCell ⟨g, 2, none⟩ u2).setCell ⟨g, 3, none⟩ u3) ∧ ((((w.setCell ⟨g, 0, none⟩ u0).setCell ⟨g, 1, none⟩ u1).setCell ⟨g, 2, none⟩ u2).setCell ⟨g, 3, none⟩ u3).cell? a0 = some v0 ∧ ((((w.setCell ⟨g, 0, none⟩ u0).setCell ⟨g, 1, none⟩ u1).setCell ⟨g, 2, none⟩ u2).setCell ⟨g, 3, none⟩ u3).cell? a1 = some v1 := by
  obtain ⟨hu, h0, h1⟩ := h
  have k : ∀ {x : Addr} {u y : Value} {j : Nat} {w : World}, x.block < B.heap.size → w.cell? x = some u → (w.setCell ⟨g, j, none⟩ y).cell? x = some u := fun {x u y j w} hx hc => by
    rw [World.cell?_of_block (w := w) (Below.heap_setCell _ _ _ _ (fun e => by simp only at e; omega))]; exact hc
  exact ⟨hu.put4 hg _ _ _ _, k b0 (k b0 (k b0 (k b0 h0))), k b1 (k b1 (k b1 (k b1 h1)))⟩
theorem hold0 {w w' : World} {b : Nat} {c0 c1 c2 c3 : Value} {t : TypeId} (h : Blk w b #[c0, c1, c2, c3] t) (hu : Upd Nowhere w w') : Blk w' b #[c0, c1, c2, c3] t := h.kept hu id
theorem holdD {w w' : World} {b : Nat} {c0 c1 c2 c3 : Value} {t : TypeId} (h : Blk w b #[c0, c1, c2, c3] t) (hu : Upd Nowhere w.drew w') : Blk w' b #[c0, c1, c2, c3] t := h.drew.kept hu id
theorem holdN {w w' : World} {c0 c1 c2 c3 : Value} {t : TypeId} (hu : Upd Nowhere (w.alloc (.cells #[c0, c1, c2, c3] t)) w') : Blk w' w.heap.size #[c0, c1, c2, c3] t := (Blk.new _ _ _).kept hu id
theorem holdND {w w' : World} {c0 c1 c2 c3 : Value} {t : TypeId} (hu : Upd Nowhere (w.alloc (.cells #[c0, c1, c2, c3] t)).drew w') : Blk w' w.heap.size #[c0, c1, c2, c3] t := (Blk.new _ _ _).drew.kept hu id
theorem keep3 {w w' B : World} {a0 a1 a2 : Addr} {v0 v1 v2 : Value} (y : Upd Nowhere w w') (h : Upd Nowhere B w ∧ w.cell? a0 = some v0 ∧ w.cell? a1 = some v1 ∧ w.cell? a2 = some v2) : Upd Nowhere B w' ∧ w'.cell? a0 = some v0 ∧ w'.cell? a1 = some v1 ∧ w'.cell? a2 = some v2 := by
  obtain ⟨hu, h0, h1, h2⟩ := h
  exact ⟨hu.trans y (fun _ _ h => h), cell_old y h0, cell_old y h1, cell_old y h2⟩
theorem keepM3 {P : Program} {f : FuncId} {args : Array Value} {w B : World} {V : Value} {a0 a1 a2 : Addr} {v0 v1 v2 : Value} (h : Calls P f args w fun e w' => e = .returned V ∧ Upd Nowhere w w') (hS : Upd Nowhere B w ∧ w.cell? a0 = some v0 ∧ w.cell? a1 = some v1 ∧ w.cell? a2 = some v2) :
    Calls P f args w fun e w' => e = .returned V ∧ Upd Nowhere w w' ∧ (Upd Nowhere B w' ∧ w'.cell? a0 = some v0 ∧ w'.cell? a1 = some v1 ∧ w'.cell? a2 = some v2) := h.mono fun _ _ ⟨x, y⟩ => ⟨x, y, keep3 y hS⟩
theorem keepP3 {w B : World} {g : Nat} {a0 a1 a2 : Addr} {v0 v1 v2 u0 u1 u2 u3 : Value} (h : Upd Nowhere B w ∧ w.cell? a0 = some v0 ∧ w.cell? a1 = some v1 ∧ w.cell? a2 = some v2) (hg : B.heap.size ≤ g) (b0 : a0.block < B.heap.size) (b1 : a1.block < B.heap.size) (b2 : a2.block < B.heap.size) :
    Upd Nowhere B ((((w.setCell ⟨g, 0, none⟩ u0).setCell ⟨g, 1, none⟩ u1).setCell ⟨g, 2, none⟩ u2).setCell ⟨g, 3, none⟩ u3) ∧ ((((w.setCell ⟨g, 0, none⟩ u0).setCell ⟨g, 1, none⟩ u1).setCell ⟨g, 2, none⟩ u2).setCell ⟨g, 3, none⟩ u3).cell? a0 = some v0 ∧ ((((w.setCell ⟨g, 0, none⟩ u0).setCell ⟨g, 1, none⟩ u1).setCell ⟨g, 2, none⟩ u2).setCell ⟨g, 3, none⟩ u3).cell? a1 = some v1 ∧ ((((w.setCell ⟨g, 0, none⟩ u0).setCell ⟨g, 1, none⟩ u1).setCell ⟨g, 2, none⟩ u2).setCell ⟨g, 3, none⟩ u3).cell? a2 = some v2 := by
  obtain ⟨h1, h2, h3⟩ := keepP2 (u0 := u0) (u1 := u1) (u2 := u2) (u3 := u3) (g := g) ⟨h.1, h.2.1, h.2.2.1⟩ hg b0 b1
  obtain ⟨_, _, h4⟩ := keepP2 (u0 := u0) (u1 := u1) (u2 := u2) (u3 := u3) (g := g) ⟨h.1, h.2.1, h.2.2.2⟩ hg b0 b2
  exact ⟨h1, h2, h3, h4⟩
/-- How many items of each class there are. -/
def lens (its : Items) (i : Nat) : Int := ((its i).length : Nat)
/-- Nothing has been served. -/
def Still (st : Turn) : Prop := st.begun = false ∧ ∀ i, st.cr i = 0
theorem Still.came {st : Turn} (h : Still st) (its : Items) (c : Nat) : Still (came st its c) := by
  unfold Drr.came; split
  · exact h
  · exact h
theorem lens_push (its : Items) (c s : Nat) (b : Int) : lens (upd its c (its c ++ [(s, b)])) = upd (lens its) c (lens its c + 1) := by
  funext i
  unfold lens
  by_cases hic : i = c
  · subst hic; rw [upd_at, upd_at]; simp
  · rw [upd_ne _ _ hic, upd_ne _ _ hic]
theorem lens_pop {its : Items} {c : Nat} {x : Nat × Int} {tl : List (Nat × Int)} (hx : its c = x :: tl) : lens (upd its c tl) = upd (lens its) c (lens its c - 1) := by
  funext i
  unfold lens
  by_cases hic : i = c
  · subst hic; rw [upd_at, upd_at, hx]; simp
  · rw [upd_ne _ _ hic, upd_ne _ _ hic]
/-- What was sent, as cells. -/
def scs (l : List (Nat × Nat)) : List Value := l.flatMap fun p => [.int .u64 (p.1 : Nat), .int .u64 (p.2 : Nat)]
theorem scs_snoc (l : List (Nat × Nat)) (p : Nat × Nat) : scs (l ++ [p]) = scs l ++ [.int .u64 (p.1 : Nat), .int .u64 (p.2 : Nat)] := by simp [scs]
theorem scs_at {l : List (Nat × Nat)} {i : Nat} {p : Nat × Nat} (h : l[i]? = some p) : (scs l)[i * 2]? = some (.int .u64 (p.1 : Nat)) ∧ (scs l)[i * 2 + 1]? = some (.int .u64 (p.2 : Nat)) := by
  induction l generalizing i with
  | nil => simp at h
  | cons x r ih =>
    have e : scs (x :: r) = .int .u64 (x.1 : Nat) :: .int .u64 (x.2 : Nat) :: scs r := rfl
    rw [e]
    cases i with
    | zero => simp only [List.getElem?_cons_zero] at h; cases h; exact ⟨rfl, rfl⟩
    | succ k =>
      simp only [List.getElem?_cons_succ] at h
      have h9 := ih h
      rw [show (k + 1) * 2 = k * 2 + 1 + 1 by omega]
      simp only [List.getElem?_cons_succ]
      exact h9
/-- What was sent lies in a block of its own. -/
theorem sent_form {w : World} {base n c : Nat} {ad : Option Addr} {l : List (Nat × Nat)} (h : w.ownsRow base TP 2 (.slice ad n c) n (scs l)) (hn : 0 < n) : ∃ g, ad = some ⟨g, 0, none⟩ ∧ ∀ (i : Nat) (p : Nat × Nat), l[i]? = some p → w.cell? ⟨g, i * 2, none⟩ = some (.int .u64 (p.1 : Nat)) ∧ w.cell? ⟨g, i * 2 + 1, none⟩ = some (.int .u64 (p.2 : Nat)) := by
  rcases h.2 with ⟨h1, _⟩ | ⟨g, cap, cur, h1, _, _⟩
  · injection h1 with _ h2 _; omega
  · injection h1 with h1 _ _
    subst h1
    refine ⟨g, rfl, fun i p hp => ?_⟩
    have hc := h.cells (g := g) rfl
    have hadd : ∀ j, (⟨g, 0, none⟩ : Addr).add j = ⟨g, j, none⟩ := fun j => by rw [add_at]; simp
    have hs := scs_at hp
    refine ⟨?_, ?_⟩
    · have h9 := hc (i * 2) _ hs.1; rw [hadd] at h9; exact h9
    · have h9 := hc (i * 2 + 1) _ hs.2; rw [hadd] at h9; exact h9
/-- What the law holds while items leave. -/
structure Mm (w2 wr : World) (t m : Nat) (q : Nat → Nat) (hb nb base : Nat) (sv : Value) (n : Nat) (sent : List (Nat × Nat)) (st : Turn) (its : Items) (la : Nat → Int) (S1 S2 : Nat) : Prop where
  has : HasD (fun k => k = hb ∨ k = nb ∨ sv.ownBlock = some k) w2 wr t m q st its
  own : wr.ownsRow base TP 2 sv n (scs sent)
  ls : Lasts wr hb m la
  now : Blk wr nb #[.int .u64 (S1 : Nat), .int .u64 (S2 : Nat)] TP
  upd : Upd Nowhere w2 wr
  o1 : hb < nb
  o2 : nb < base
  o3 : w2.heap.size ≤ hb
section
variable {w2 wr w' : World} {t m : Nat} {q : Nat → Nat} {hb nb base : Nat} {sv : Value} {n : Nat} {sent : List (Nat × Nat)} {st : Turn} {its : Items} {la : Nat → Int} {S1 S2 : Nat}
theorem Mm.low (h : Mm w2 wr t m q hb nb base sv n sent st its la S1 S2) : ∀ k, (k = hb ∨ k = nb ∨ sv.ownBlock = some k) → k < wr.heap.size := fun k hk => by
  rcases hk with rfl | rfl | hk
  · exact h.ls.lt
  · exact h.now.lt
  · exact (h.own.lt k hk).2
theorem Mm.setHas (h : Mm w2 wr t m q hb nb base sv n sent st its la S1 S2) {c : Nat} (hc : c < m) (x : Int) : Mm w2 (wr.setCell ⟨hb, c, none⟩ (.int .i64 x)) t m q hb nb base sv n sent st its (Go.Proofs.Ytopibbaopglggaa.upd la c x) S1 S2 := by
  have hset : Upd (fun b => b = hb) wr (wr.setCell ⟨hb, c, none⟩ (.int .i64 x)) := Upd.setCell (S := fun b => b = hb) (a := ⟨hb, c, none⟩) (Upd.refl _ _) (fun _ => rfl) _
  refine ⟨h.has.kept hset (fun b hb _ => .inl (.inl hb)), ownsRow_upd h.own hset (fun k hk e => ?_), h.ls.set hc x, h.now.kept hset (fun e => ?_), h.upd.setNew (a := ⟨hb, c, none⟩) h.o3 _, h.o1, h.o2, h.o3⟩
  · have := (h.own.lt k hk).1; have := h.o1; have := h.o2; omega
  · have := h.o1; omega
theorem Mm.setNow (h : Mm w2 wr t m q hb nb base sv n sent st its la S1 S2) {i : Nat} (x T1 T2 : Nat) (hx : (#[Value.int .u64 (S1 : Nat), .int .u64 (S2 : Nat)]).setIfInBounds i (.int .u64 (x : Nat)) = #[.int .u64 (T1 : Nat), .int .u64 (T2 : Nat)]) : Mm w2 (wr.setCell ⟨nb, i, none⟩ (.int .u64 (x : Nat))) t m q hb nb base sv n sent st its la T1 T2 := by
  have hset : Upd (fun b => b = nb) wr (wr.setCell ⟨nb, i, none⟩ (.int .u64 (x : Nat))) := Upd.setCell (S := fun b => b = nb) (a := ⟨nb, i, none⟩) (Upd.refl _ _) (fun _ => rfl) _
  refine ⟨h.has.kept hset (fun b hb _ => .inl (.inr (.inl hb))), ownsRow_upd h.own hset (fun k hk e => ?_), h.ls.kept hset (fun e => ?_), ?_, h.upd.setNew (a := ⟨nb, i, none⟩) (by have := h.o1; have := h.o3; show w2.heap.size ≤ nb; omega) _, h.o1, h.o2, h.o3⟩
  · have := (h.own.lt k hk).1; have := h.o2; omega
  · have := h.o1; omega
  · rw [← hx]; exact h.now.set i _
/-- One time more is noted. -/
theorem Mm.push (h : Mm w2 wr t m q hb nb base sv n sent st its la S1 S2) {o : Obj} {v4 : Value} {w4 : World} (hown : w4.ownsRow base TP 2 v4 (n + 1) (scs sent ++ [.int .u64 (S1 : Nat), .int .u64 (S2 : Nat)])) (hu : Upd (fun k => sv.ownBlock = some k) (wr.alloc o) w4) (hn : OwnOrNew (wr.alloc o) sv v4) :
    Mm w2 w4 t m q hb nb base v4 (n + 1) (sent ++ [(S1, S2)]) st its la S1 S2 := by
  have ha : Upd Nowhere wr (wr.alloc o) := (Upd.refl _ _).alloc _
  have hne : ∀ k, sv.ownBlock = some k → k ≠ hb ∧ k ≠ nb := fun k hk => by have := (h.own.lt k hk).1; have := h.o1; have := h.o2; omega
  have hD := ((h.has.old ha).re (A' := fun k => (k = hb ∨ k = nb ∨ sv.ownBlock = some k) ∨ v4.ownBlock = some k) (fun k hk => by
    rcases hk with hk | hk
    · exact .inl hk
    · rcases hn k hk with h1 | h1
      · exact .inl (.inr (.inr h1))
      · exact .inr h1)).kept hu (fun k hk _ => .inl (.inl (.inr (.inr hk))))
  refine ⟨hD.re (fun k hk => ?_), by rw [scs_snoc]; exact hown, (h.ls.kept ha id).kept hu (fun e => (hne _ e).1 rfl), (h.now.kept ha id).kept hu (fun e => (hne _ e).2 rfl), (h.upd.trans ha (fun _ _ h => h)).trans hu (fun k hk e => absurd hk (Nat.not_lt.2 (by have := (h.own.lt k e).1; have := h.o1; have := h.o2; have := h.o3; omega))), h.o1, h.o2, h.o3⟩
  rcases hk with hk | hk | hk
  · exact .inl (.inl (.inl hk))
  · exact .inl (.inl (.inr (.inl hk)))
  · exact .inl (.inr hk)
/-- An item has left. -/
theorem Mm.took {st' : Turn} {its' : Items} (h : Mm w2 wr t m q hb nb base sv n sent st its la S1 S2) (hD : HasD (fun k => k = hb ∨ k = nb ∨ sv.ownBlock = some k) w2 w' t m q st' its') (hu : Upd (fun k => w2.heap.size ≤ k ∧ ¬ (k = hb ∨ k = nb ∨ sv.ownBlock = some k)) wr w') : Mm w2 w' t m q hb nb base sv n sent st' its' la S1 S2 :=
  ⟨hD, ownsRow_upd h.own hu (fun _ hk e => e.2 (.inr (.inr hk))), h.ls.kept hu (fun e => e.2 (.inl rfl)), h.now.kept hu (fun e => e.2 (.inr (.inl rfl))), past (Nat.le_refl _) h.upd hu, h.o1, h.o2, h.o3⟩
end
/-- What a round starts with. -/
def Lp (w2 wr : World) (t m : Nat) (q : Nat → Nat) (a b M : Nat) (o : Int) (hb nb base : Nat) (sv : Value) : Prop := ∃ (n : Nat) (adS : Option Addr) (cS : Nat) (sent : List (Nat × Nat)) (S1 S2 : Nat) (st : Turn) (its : Items),
  sv = .slice adS n cS ∧ sent.length = n ∧ n + tot its m ≤ 300 ∧ Mm w2 wr t m q hb nb base sv n sent st its (lens its) S1 S2 ∧ Sizes its M ∧ (a ≠ b → Weighed q a b M o sent S1 S2 st its) ∧ (a = b → sent = [])
/-- A slice's length. -/
def lenV : Value → Nat
  | .slice _ n _ => n
  | _ => 0
theorem fair_walk (ad : Option Addr) (ca : Nat) (l : List Nat) (h1 : 2 ≤ l.length) (h2 : l.length ≤ 8) (hl : ∀ x ∈ l, x ≤ 65535) (ad2 : Option Addr) (ca2 : Nat) (szs : List Nat) (h3 : 1 ≤ szs.length) (h4 : szs.length ≤ 300) (hb : ∀ x ∈ szs, x ≤ 65535) (F G K : Nat) (hF : F ≤ 255) (hG : G ≤ 255) (hK : K ≤ 255) (w : World)
    (h0 : ad = none → l = []) (hc : ∀ g, ad = some g → ∀ (j x : Nat), l[j]? = some x → g.spot = none ∧ w.cell? ⟨g.block, g.off + j, none⟩ = some (.int .u16 (x : Nat)))
    (h02 : ad2 = none → szs = []) (hc2 : ∀ g, ad2 = some g → ∀ (j x : Nat), szs[j]? = some x → g.spot = none ∧ w.cell? ⟨g.block, g.off + j, none⟩ = some (.int .u16 (x : Nat))) :
    Calls Try.prog 6 #[.slice ad l.length ca, .slice ad2 szs.length ca2, .agg #[.int .u8 F, .int .u8 G, .int .u8 K]] w fun e w' => e = .returned (.bool true) ∧ Upd Nowhere w w' := by
  obtain ⟨i0, hi, hz0, hz1, hz2⟩ := info_parts infoU
  obtain ⟨i1, gi, gz0, gz1, gz2⟩ := info_parts infoI
  obtain ⟨i2, pi, pz0, pz1, pz2⟩ := info_parts infoP
  have HL := fun u => Lib.hid (lives u)
  obtain ⟨m, hm⟩ : ∃ m, l.length = m := ⟨_, rfl⟩
  obtain ⟨N, hN⟩ : ∃ m, szs.length = m := ⟨_, rfl⟩
  rw [hm] at h1 h2 ⊢
  rw [hN] at h3 h4 ⊢
  have t0 : decide ((m : Int) < 2) = false := decide_eq_false (by omega)
  have t0' : decide (m < 2) = false := decide_eq_false (by omega)
  have t1 : decide ((m : Int) > 8) = false := decide_eq_false (by omega)
  have t2 : decide (8 < m) = false := decide_eq_false (by omega)
  have t2' : ((N : Int) == 0) = false := by simp; omega
  have t3 : decide ((N : Int) > 300) = false := decide_eq_false (by omega)
  have t4 : decide (300 < N) = false := decide_eq_false (by omega)
  have HM := Lib.hid hm
  have HN := Lib.hid hN
  have H0 := Lib.hid h0
  have HC := Lib.hid hc
  have H02 := Lib.hid h02
  have HC2 := Lib.hid hc2
  have HLB := Lib.hid hl
  have HSB := Lib.hid hb
  clear hm hN h0 hc h02 hc2 hl hb
  go_enter Try.func6, Try.ntmps6
  go_wp2_with fail
  have hA1 : Blk (w.alloc (.cells #[.int .u8 F, .int .u8 G, .int .u8 K] T3)) w.heap.size #[.int .u8 F, .int .u8 G, .int .u8 K] T3 := Blk.new _ _ _
  have hUa : Upd Nowhere w (w.alloc (.cells #[.int .u8 F, .int .u8 G, .int .u8 K] T3)) := (Upd.refl _ _).alloc _
  generalize w.alloc (.cells #[.int .u8 F, .int .u8 G, .int .u8 K] T3) = wF at *
  obtain ⟨a0, a1, a2, _, _, _⟩ := cells3 hA1
  clear hA1
  go_quiet (fail)
  have HUF := Lib.hid (hUa.drewN nq)
  clear hUa a0 a1 a2
  go_wp2_with fail
  go_loopw [10, 60] (fun qv c wr => ∃ (k : Nat) (adq : Option Addr) (cq : Nat), k ≤ m ∧ c = .int .i64 k ∧ qv = .slice adq k cq ∧ wr.ownsRow w.heap.size TU 1 qv k (nrow .u64 (quanta (l.take k))) ∧ Upd Nowhere w wr) (fun _ c _ => m - (intOf c).toNat)
  case atStart => exact ⟨0, none, 0, by omega, rfl, rfl, ownsRow_nil _ _ _ _, HUF.out⟩
  case round =>
    obtain ⟨k, adq, cq, hk, rfl, rfl, hown, hu⟩ := hrel
    have HO := Lib.hid hown
    have HU := Lib.hid hu
    obtain ⟨w2, rfl⟩ : ∃ x, x = wr := ⟨_, rfl⟩
    have hsz := hu.size
    clear hown hu
    by_cases hlt : k < m
    · have hI : (k : Int) < m := by omega
      obtain ⟨x, hx⟩ : ∃ x, l[k]? = some x := ⟨l[k]'(by rw [HM.out]; exact hlt), by simp⟩
      have hxb := HLB.out x (List.mem_of_getElem? hx)
      obtain ⟨ga, oa, rfl, hcx⟩ : ∃ g o, ad = some ⟨g, o, none⟩ ∧ w.cell? ⟨g, o + k, none⟩ = some (.int .u16 (x : Nat)) := by
        cases ad with
        | none => rw [H0.out rfl] at hx; cases hx
        | some g =>
          obtain ⟨hs, hcc⟩ := HC.out g rfl k x hx
          obtain ⟨g, o, sp⟩ := g
          simp only at hs
          subst hs
          exact ⟨g, o, rfl, hcc⟩
      have hcx2 := cell_old HU.out hcx
      obtain ⟨y, hy⟩ : ∃ y, x + 64 = y := ⟨_, rfl⟩
      have e1 : IntKind.u64.wrap (x : Int) = (x : Int) := by rw [IntKind.wrap_u64]; omega
      have e2 : IntKind.u64.wrap ((x : Int) + 64) = (y : Int) := by rw [IntKind.wrap_u64]; omega
      have HX := Lib.hid hx
      have HY := Lib.hid hy
      clear hx hy hcx
      go_wp2_with (at_builtin; refine wpList_push rfl _ _ 38 rfl w.heap.size TU i0 (.int .u64 0) 1 8 Try.underlying38 hi hz0 hz1 hz2 rfl (by decide) (by decide) _ _ _ rfl (HO.out.alloc _) w2.heap.size 1 [.int .u64 (y : Nat)] rfl rfl (new_cells _ #[_] _) (by simp [Value.oneCell']) (by omega) (by simp; omega) ?_; intro v4 w4 hown4 hu4 hn4; obtain ⟨ad4, c4, rfl⟩ : ∃ ad c, v4 = .slice ad (k + 1) c := by (rcases hown4.2 with ⟨rfl, h⟩ | ⟨g, cap, cur, rfl, _⟩); (exact absurd h (Nat.succ_ne_zero k)); (exact ⟨_, _, rfl⟩))
      go_roundw
      case rel =>
        refine ⟨k + 1, ad4, c4, by omega, by go_num, rfl, ?_, (HU.out.alloc _).trans hu4 (fun b hb hk => absurd (HO.out.lt b hk).1 (Nat.not_le.2 hb))⟩
        rw [quanta_take HX.out, HY.out]
        unfold nrow at hown4 ⊢
        rw [List.map_append]
        exact hown4
      case measure => simp [intOf]; omega
    · obtain rfl : m = k := by omega
      have hI : ¬ (m : Int) < m := by omega
      have hro : RowAt w2 (.slice adq m cq) (nrow .u64 (quanta l)) := by
        have h9 := ownsRow_rowAt HO.out
        rw [List.take_of_length_le (by rw [HM.out]; exact Nat.le_refl _)] at h9
        exact h9
      obtain ⟨adq', cq', hqv, hq0, hqc⟩ := nrow_parts hro
      obtain ⟨ea, ec⟩ : adq' = adq ∧ cq' = cq := by injection hqv with a b c; exact ⟨a.symm, c.symm⟩
      subst adq' cq'
      clear hqv
      have hql : (quanta l).length = m := by rw [quanta_len, HM.out]
      have HNW := Lib.hid (new_some w2 adq cq (quanta l) (by omega) (by omega) hq0 hqc)
      rw [hql] at HNW
      have HQL := Lib.hid hql
      have HQ0 := Lib.hid hq0
      have HQC := Lib.hid hqc
      clear hro hq0 hqc hql HO
      go_wp2_with fail
      refine HNW.out.mono ?_
      rintro e w3 ⟨u3, ⟨_, hno⟩ | ⟨_, t, rfl, hmd⟩⟩
      · exact absurd (quanta_good HLB.out) (by rw [hno]; decide)
      have hD3 := hasD_new hmd u3 (quanta_good HLB.out)
      rw [HQL.out] at hD3
      generalize hqf : (fun i => (quanta l).getD i 0) = q at hD3
      have HD3 := Lib.hid hD3
      have HU3 := Lib.hid u3
      have HQF := Lib.hid hqf
      have hlow : w.heap.size ≤ w2.heap.size := hsz
      have hlow3 := u3.size
      clear hmd u3 hD3 hqf HNW
      obtain ⟨a, had, ham⟩ : ∃ a, F % m = a ∧ a < m := ⟨_, rfl, Nat.mod_lt _ (by omega)⟩
      obtain ⟨b, hbd, hbm⟩ : ∃ a, G % m = a ∧ a < m := ⟨_, rfl, Nat.mod_lt _ (by omega)⟩
      have hm0 : ¬ m = 0 := by omega
      have eF : IntKind.i64.wrap (F : Int) = (F : Int) := by rw [IntKind.wrap_i64]; omega
      have eG : IntKind.i64.wrap (G : Int) = (G : Int) := by rw [IntKind.wrap_i64]; omega
      have ea : (F : Int) % m = (a : Int) := by rw [← had]; omega
      have eb : (G : Int) % m = (b : Int) := by rw [← hbd]; omega
      have ea' : (F : Int).tmod m = (a : Int) := by rw [Int.tmod_eq_emod_of_nonneg (by omega)]; exact ea
      have eb' : (G : Int).tmod m = (b : Int) := by rw [Int.tmod_eq_emod_of_nonneg (by omega)]; exact eb
      have ew1 : IntKind.i64.wrap (a : Int) = (a : Int) := by rw [IntKind.wrap_i64]; omega
      have ew2 : IntKind.i64.wrap (b : Int) = (b : Int) := by rw [IntKind.wrap_i64]; omega
      clear had hbd
      go_wp2_with fail
      go_quiet (fail)
      have HD3d := Lib.hid (HD3.out.old ((Upd.refl Nowhere _).drewN nq))
      have HU3d := Lib.hid (HU3.out.drewN nq)
      clear HD3 HU3 hm0 eF eG ea eb ea' eb' ew1 ew2 hlow3
      generalize w3.drewN nq = w3d at *
      go_wp2_with (refine wpList_make_full _ rfl _ _ 39 rfl w3d.heap.size TI i1 (.int .i64 0) 1 Try.underlying39 gi gz0 gz1 .i64 .i64 _ _ m rfl rfl rfl rfl (by rw [gz2]; omega) (by unfold maxLen; omega) (Nat.le_refl _) ?_; intro w4x hown hgr)
      have hu4 : Upd Nowhere w3d w4x := (Upd.refl Nowhere w3d).grown hgr (fun k _ h => by cases h)
      obtain ⟨cur, hcur, _, _, hcs, hct⟩ := Blk.own hown
      obtain ⟨w4, rfl⟩ : ∃ x, x = w3d := ⟨_, rfl⟩
      have HLS0 : Hid (Lasts w4x w4.heap.size m (lens fun _ => [])) := Lib.hid ⟨cur, hcur, by omega, fun i hi => made_at hct hi⟩
      have HD4 := Lib.hid ((HD3d.out.re (A' := fun b => b = w4.heap.size) (fun b hb => .inr (Nat.le_of_eq hb.symm))).old hu4)
      have HU4 := Lib.hid (HU3d.out.trans hu4 (fun _ _ h => h))
      have HU4L : w2.heap.size ≤ w4.heap.size := HU3d.out.size
      have htz : tot (fun _ => ([] : List (Nat × Int))) m = 0 := tot_zero.2 (fun _ _ => rfl)
      have HTZ := Lib.hid htz
      clear hown hgr hu4 hcs hct hcur HD3d HU3d htz
      go_wp2_with fail
      go_loopw [18, 97] (fun mv c wr => ∃ (k M : Nat) (st : Turn) (its : Items), k ≤ N ∧ c = .int .i64 k ∧ mv = .int .u64 M ∧ M ≤ 2000 ∧ HasD (fun b => b = w4.heap.size) w2 wr t m q st its ∧ tot its m ≤ k ∧ Sizes its M ∧ Still st ∧ Lasts wr w4.heap.size m (lens its) ∧ Upd Nowhere w2 wr) (fun _ c _ => N - (intOf c).toNat)
      case atStart => exact ⟨0, 0, fresh, fun _ => [], by omega, rfl, rfl, by omega, HD4.out, by rw [HTZ.out]; exact Nat.le_refl _, (fun _ _ hx => by cases hx), ⟨rfl, fun _ => rfl⟩, HLS0.out, HU4.out⟩
      case round =>
        obtain ⟨k, M, st, its, hk, rfl, rfl, hM, hD, htk, hSz, hSt, hLS, hU⟩ := hrel
        have HD1 := Lib.hid hD
        have HSZ := Lib.hid hSz
        have HST := Lib.hid hSt
        have HLS1 := Lib.hid hLS
        have HU1 := Lib.hid hU
        obtain ⟨w5, rfl⟩ : ∃ x, x = wr := ⟨_, rfl⟩
        clear hD hSz hSt hLS hU HD4 HLS0 HU4 HTZ
        by_cases hlt2 : k < N
        · have hI2 : (k : Int) < N := by omega
          obtain ⟨sz, hx⟩ : ∃ x, szs[k]? = some x := ⟨szs[k]'(by rw [HN.out]; exact hlt2), by simp⟩
          have hszb := HSB.out _ (List.mem_of_getElem? hx)
          obtain ⟨ga, oa, rfl, hcx⟩ : ∃ g o, ad2 = some ⟨g, o, none⟩ ∧ w.cell? ⟨g, o + k, none⟩ = some (.int .u16 (sz : Nat)) := by
            cases ad2 with
            | none => rw [H02.out rfl] at hx; cases hx
            | some g =>
              obtain ⟨hs, hcc⟩ := HC2.out g rfl k sz hx
              obtain ⟨g, o, sp⟩ := g
              simp only at hs
              subst hs
              exact ⟨g, o, rfl, hcc⟩
          have r0 : w5.cell? ⟨ga, oa + k, none⟩ = some (.int .u16 (sz : Nat)) := cell_old (HU.out.trans HU1.out (fun _ _ h => h)) hcx
          clear hx hcx
          have e1 : IntKind.u64.wrap (sz : Int) = (sz : Int) := by rw [IntKind.wrap_u64]; omega
          obtain ⟨s0, hs0, hs2⟩ : ∃ s, sz % 2000 = s ∧ s < 2000 := ⟨_, rfl, Nat.mod_lt _ (by omega)⟩
          have es : (sz : Int) % 2000 = (s0 : Int) := by omega
          have es' : (sz : Int).tmod 2000 = (s0 : Int) := by rw [Int.tmod_eq_emod_of_nonneg (by omega)]; exact es
          have e3 : IntKind.u64.wrap (s0 : Int) = (s0 : Int) := by rw [IntKind.wrap_u64]; omega
          obtain ⟨s1, hs1⟩ : ∃ s, s0 + 1 = s := ⟨_, rfl⟩
          have es2 : IntKind.u64.wrap ((s0 : Int) + 1) = (s1 : Int) := by rw [IntKind.wrap_u64]; omega
          obtain ⟨M1, hM1⟩ : ∃ s, max M s1 = s := ⟨_, rfl⟩
          have em1 : (if (M : Int) < s1 then (s1 : Int) else M) = (M1 : Int) := by split <;> omega
          have em2 : (if M < s1 then (s1 : Int) else M) = (M1 : Int) := by split <;> omega
          have em3 : max (M : Int) s1 = (M1 : Int) := by omega
          have hm0 : ¬ m = 0 := by omega
          obtain ⟨c, hcd, hcm⟩ : ∃ c, k % m = c ∧ c < m := ⟨_, rfl, Nat.mod_lt _ (by omega)⟩
          have ec : (k : Int) % m = (c : Int) := by rw [← hcd]; omega
          have ec' : (k : Int).tmod m = (c : Int) := by rw [Int.tmod_eq_emod_of_nonneg (by omega)]; exact ec
          have ec2 : IntKind.i64.wrap (c : Int) = (c : Int) := by rw [IntKind.wrap_i64]; omega
          have hlen : (its c).length < 1024 := by have := tot_le its hcm; omega
          have HP := Lib.hid (hasD_push HD1.out (fun b hb => by rw [hb]; exact HLS1.out.lt) hcm s1 (k : Int) (by omega) (by omega) hlen)
          have hto := tot_upd its c (its c ++ [(s1, (k : Int))]) m hcm
          simp only [List.length_append, List.length_singleton] at hto
          have HM1 := Lib.hid hM1
          have HTO := Lib.hid hto
          have hM1b : M1 ≤ 2000 := by omega
          clear hcd hs0 hs1 hM1 hlen hto
          go_wp2_with fail
          refine HP.out.mono ?_
          rintro e w7 ⟨rfl, h7, u7⟩
          have H7 := Lib.hid h7
          have U7 := Lib.hid (past (Nat.le_refl _) HU1.out u7)
          have HLS7 := Lib.hid (HLS1.out.kept u7 (fun h => h.2 rfl))
          obtain ⟨ll, lz⟩ := HLS7.out.at_ hcm
          obtain ⟨lac, hlac⟩ : ∃ y, lens its c = y := ⟨_, rfl⟩
          have hlacb : 0 ≤ lac ∧ lac ≤ 1024 := by rw [← hlac]; unfold lens; have := HD1.out.fits.len c hcm; omega
          rw [hlac] at ll
          obtain ⟨lac1, hlac1⟩ : ∃ y, lac + 1 = y := ⟨_, rfl⟩
          have ew9 : IntKind.i64.wrap (lac + 1) = lac1 := by rw [IntKind.wrap_i64]; omega
          have p4 : (c : Int) < m := by omega
          have hset : Upd (fun b => b = w4.heap.size) w7 (w7.setCell ⟨w4.heap.size, c, none⟩ (.int .i64 lac1)) := Upd.setCell (S := fun b => b = w4.heap.size) (a := ⟨w4.heap.size, c, none⟩) (Upd.refl _ _) (fun _ => rfl) _
          have HSET := Lib.hid hset
          have HLQ : Hid (lens (upd its c (its c ++ [(s1, (k : Int))])) = upd (lens its) c lac1) := Lib.hid (by rw [lens_push, hlac, hlac1])
          clear h7 u7 HP hset hlac hlac1 hlacb
          go_wp2_with fail
          go_roundw
          case rel => exact ⟨k + 1, M1, _, _, by omega, by go_num, rfl, hM1b, H7.out.kept HSET.out (fun b hb _ => .inl hb), by have := HTO.out; omega, by rw [← HM1.out]; exact HSZ.out.push c s1 _, HST.out.came _ _, by rw [HLQ.out]; exact HLS7.out.set hcm _, U7.out.setNew (a := ⟨w4.heap.size, c, none⟩) (by simp; exact HU4L) _⟩
          case measure => simp [intOf]; omega
        · have hI2 : ¬ (k : Int) < N := by omega
          clear hI
          go_upto_block 4 with fail
          obtain ⟨o, ho⟩ : ∃ o, poise q a b st = o := ⟨_, rfl⟩
          have hW : Weighed q a b M o [] 0 0 st its := by rw [← ho]; exact Weighed.start HST.out.2
          have hB5 : w4.heap.size < w5.heap.size := HLS1.out.lt
          have hMm : Mm w2 (w5.alloc (.cells #[.int .u64 0, .int .u64 0] TP)) t m q w4.heap.size w5.heap.size (w5.heap.size + 1) (.slice none 0 0) 0 [] st its (lens its) 0 0 := by
            have ha : Upd Nowhere w5 (w5.alloc (.cells #[.int .u64 0, .int .u64 0] TP)) := (Upd.refl _ _).alloc _
            refine ⟨(HD1.out.re (fun k hk => ?_)).old ha, ownsRow_nil _ _ _ _, HLS1.out.kept ha id, Blk.new _ _ _, HU1.out.trans ha (fun _ _ h => h), hB5, Nat.lt_succ_self _, HU4L⟩
            rcases hk with hk | hk | hk
            · exact .inl hk
            · exact .inr (Nat.le_of_eq hk.symm)
            · cases hk
          have hLp : Lp w2 (w5.alloc (.cells #[.int .u64 0, .int .u64 0] TP)) t m q a b M o w4.heap.size w5.heap.size (w5.heap.size + 1) (.slice none 0 0) := ⟨0, none, 0, [], 0, 0, st, its, rfl, rfl, by omega, hMm, HSZ.out, fun _ => hW, fun _ => rfl⟩
          have HLP := Lib.hid hLp
          clear hW hMm hLp ho HD1 HSZ HST HLS1 HU1 htk
          generalize w5.alloc (.cells #[.int .u64 0, .int .u64 0] TP) = wN at *
          go_cut [22, 24, 25, 26, 27] from 129 to 190 (fun sv _ _ _ _ wc => Lp w2 wc t m q a b M o w4.heap.size w5.heap.size (w5.heap.size + 1) sv)
          case first =>  -- SLOW
            go_wp2_with fail
            go_loopw [22] (fun sv wr => Lp w2 wr t m q a b M o w4.heap.size w5.heap.size (w5.heap.size + 1) sv) (fun sv _ => 300 - lenV sv)
            case atStart => exact HLP.out
            case round =>
              clear HLP
              obtain ⟨n, adS, cS, sent, S1, S2, st, its, rfl, hsl, hnt, hMm, hSz, hWe, hE⟩ := hrel
              obtain ⟨wB, rfl⟩ : ∃ x, x = wr := ⟨_, rfl⟩
              have hback : Hid (Lp w2 wB t m q a b M o w4.heap.size w5.heap.size (w5.heap.size + 1) (.slice adS n cS)) := Lib.hid ⟨n, adS, cS, sent, S1, S2, st, its, rfl, hsl, hnt, hMm, hSz, hWe, hE⟩
              have HMM := Lib.hid hMm
              by_cases hab : a = b
              · have d1 : ((a : Int) != b) = false := by simp [hab]
                clear hMm hSz hWe hE hab hsl hnt HMM
                go_wp2_with fail
                go_meet
                exact hback.out
              have d1 : ((a : Int) != b) = true := by simp; omega
              have W := Lib.hid (hWe hab)
              have HSZ := Lib.hid hSz
              obtain ⟨la0, lz0⟩ := HMM.out.ls.at_ ham
              obtain ⟨lb0, lz1⟩ := HMM.out.ls.at_ hbm
              have ela : lens its a = ((its a).length : Nat) := rfl
              have elb : lens its b = ((its b).length : Nat) := rfl
              obtain ⟨La, hLa⟩ : ∃ y, (its a).length = y := ⟨_, rfl⟩
              obtain ⟨Lb, hLb⟩ : ∃ y, (its b).length = y := ⟨_, rfl⟩
              rw [ela, hLa] at la0
              rw [elb, hLb] at lb0
              clear hMm hSz hWe hE ela elb
              have pa : (a : Int) < m := by omega
              have pb : (b : Int) < m := by omega
              by_cases hz : La = 0 ∨ Lb = 0
              · rcases Nat.eq_zero_or_pos La with hz1 | hz1
                · subst hz1
                  clear hz hLa hLb hsl hnt hab W HSZ HMM
                  go_wp2_with fail
                  go_meet
                  exact hback.out
                · obtain rfl : Lb = 0 := by omega
                  have d2 : decide ((La : Int) > 0) = true := decide_eq_true (by omega)
                  have d3 : decide (0 < La) = true := decide_eq_true hz1
                  clear hz hLa hLb hsl hnt hab W HSZ HMM hz1
                  go_wp2_with fail
                  go_meet
                  exact hback.out
              have hia : its a ≠ [] := fun e => by rw [e] at hLa; simp at hLa; omega
              have hib : its b ≠ [] := fun e => by rw [e] at hLb; simp at hLb; omega
              have d2 : decide ((La : Int) > 0) = true := decide_eq_true (by omega)
              have d3 : decide (0 < La) = true := decide_eq_true (by omega)
              have d4 : decide ((Lb : Int) > 0) = true := decide_eq_true (by omega)
              have d5 : decide (0 < Lb) = true := decide_eq_true (by omega)
              have hfits := HMM.out.has.fits
              have hne : st.row ≠ [] := fun e => by have := (hfits.mem a).2 ⟨ham, hia⟩; rw [e] at this; cases this
              obtain ⟨hf5, c, r, cr, hs5, hle5⟩ := spin_ends (meas m st + 1) st hfits (Nat.lt_succ_self _) hne
              have hf6 := hf5
              rw [hs5] at hf6
              obtain ⟨hcm, x, tl, hx⟩ := hf6.head rfl
              have hto := tot_upd its c tl m hcm
              rw [hx] at hto
              simp only [List.length_cons] at hto
              have hWn := W.out.next hfits hab ham hbm hia hib HSZ.out hs5 hle5 hx
              have HWN := Lib.hid hWn
              have hS12 := W.out.few
              have hMn : M * sent.length ≤ 2000 * 300 := Nat.mul_le_mul hM (by omega)
              have hx1 : x.1 ≤ M := HSZ.out c x (by rw [hx]; exact List.mem_cons_self ..)
              have HSZ2 := Lib.hid (HSZ.out.pop hx)
              have hlc : lens its c = ((tl.length + 1 : Nat) : Int) := by unfold lens; rw [hx]; rfl
              have hlp : lens (upd its c tl) = upd (lens its) c (tl.length : Nat) := by rw [lens_pop hx, hlc]; congr 1; push_cast; omega
              have HLP2 := Lib.hid hlp
              have htl : tl.length ≤ 1024 := by have := hfits.len c hcm; rw [hx] at this; simp at this; omega
              have HNX := fun (sv : Value) (w' : World) (h : HasD (fun k => k = w4.heap.size ∨ k = w5.heap.size ∨ sv.ownBlock = some k) w2 w' t m q st its) (hA : ∀ k, (k = w4.heap.size ∨ k = w5.heap.size ∨ sv.ownBlock = some k) → k < w'.heap.size) => Lib.hid (hasD_next h hA hs5 hne hx)
              clear hfits hf5 hs5 hf6 hle5 hWn hlp W HSZ hback hz hLa hLb hia hib hne
              have HX := Lib.hid hx
              clear hx
              obtain ⟨x1, x2⟩ := x
              simp only at hx1 HWN HNX
              obtain ⟨y0, y1, _, _⟩ := cells2 HMM.out.now
              have hsS1 : S1 ≤ 600000 := by omega
              have hsS2 : S2 ≤ 600000 := by omega
              have hn300 : n < 300 := by omega
              have HOwn := HMM.out.own
              have HOW := Lib.hid HOwn
              clear HOwn hS12 hMn
              have hbs5 : w5.heap.size < wB.heap.size := HMM.out.now.lt
              go_wp2_with (at_builtin; refine wpList_push rfl _ _ 50 rfl (w5.heap.size + 1) TP i2 (.agg #[.int .u64 0, .int .u64 0]) 2 16 Try.underlying50 pi pz0 pz1 pz2 rfl (by decide) (by decide) (.slice adS n cS) n _ rfl (HOW.out.alloc _) wB.heap.size 1 [.int .u64 (S1 : Nat), .int .u64 (S2 : Nat)] rfl rfl (new_cells wB #[_, _] _) (by simp [Value.oneCell']) (by omega) (by simp; omega) ?_; intro v6 w6 hown hu hno; have h6 := HMM.out.push hown hu hno; have H6 := Lib.hid h6; obtain ⟨a6, c6, rfl⟩ : ∃ ad c, v6 = .slice ad (n + 1) c := (by (rcases hown.2 with ⟨rfl, h⟩ | ⟨g, cap, cur, rfl, _⟩); (exact absurd h (Nat.succ_ne_zero n)); (exact ⟨_, _, rfl⟩)); clear hown hu hno h6)
              refine (HNX _ _ H6.out.has H6.out.low).out.mono ?_
              rintro e w7 ⟨rfl, h7, u7⟩
              have H7 := Lib.hid (H6.out.took h7 u7)
              obtain ⟨lc0, lcz⟩ := H7.out.ls.at_ hcm
              obtain ⟨Lt, hLt⟩ : ∃ y, tl.length = y := ⟨_, rfl⟩
              rw [hLt] at hlc htl HLP2 hto
              obtain ⟨Lc, hLc⟩ : ∃ y, Lt + 1 = y := ⟨_, rfl⟩
              rw [hLc] at hlc
              rw [hlc] at lc0
              have ew1 : IntKind.i64.wrap ((Lc : Int) - 1) = (Lt : Int) := by rw [IntKind.wrap_i64]; omega
              have p1 : decide ((c : Int) < 0) = false := decide_eq_false (by omega)
              have p2 : decide (m ≤ c) = false := decide_eq_false (by omega)
              have p3 : decide ((c : Int) ≥ m) = false := decide_eq_false (by omega)
              have p3' : decide ((m : Int) ≤ c) = false := decide_eq_false (by omega)
              have p4 : (c : Int) < m := by omega
              have H8 := Lib.hid (H7.out.setHas hcm (Lt : Int))
              obtain ⟨j0, j1, z0, z1⟩ := cells2 H8.out.now
              clear h7 u7 H6 HNX hlc hLt hLc
              by_cases hca : c = a
              · have hcb : ¬ c = b := fun e => hab (hca.symm.trans e)
                subst hca
                have g1 : ((c : Int) == c) = true := by simp
                have g2 : ((c : Int) == b) = false := by simp; omega
                obtain ⟨T, hT⟩ : ∃ y, S1 + x1 = y := ⟨_, rfl⟩
                have ew2 : IntKind.u64.wrap ((S1 : Int) + x1) = (T : Int) := by rw [IntKind.wrap_u64]; omega
                have HT := Lib.hid hT
                have H9 := Lib.hid (H8.out.setNow (i := 0) T T S2 rfl)
                clear hT
                go_wp2_with fail
                go_roundw
                case rel => exact ⟨n + 1, a6, c6, sent ++ [(S1, S2)], T, S2, _, _, rfl, by simp [hsl], by omega, by rw [HLP2.out]; exact H9.out, HSZ2.out, fun _ => by have h9 := HWN.out; simp only [if_true, if_neg hcb, HT.out] at h9; exact h9, fun e => absurd e hab⟩
                case measure => simp [lenV]; omega
              · by_cases hcb : c = b
                · have g1 : ((c : Int) == a) = false := by simp; omega
                  subst hcb
                  have g2 : ((c : Int) == c) = true := by simp
                  obtain ⟨T, hT⟩ : ∃ y, S2 + x1 = y := ⟨_, rfl⟩
                  have ew2 : IntKind.u64.wrap ((S2 : Int) + x1) = (T : Int) := by rw [IntKind.wrap_u64]; omega
                  have HT := Lib.hid hT
                  have H9 := Lib.hid (H8.out.setNow (i := 1) T S1 T rfl)
                  clear hT
                  go_wp2_with fail
                  go_roundw
                  case rel => exact ⟨n + 1, a6, c6, sent ++ [(S1, S2)], S1, T, _, _, rfl, by simp [hsl], by omega, by rw [HLP2.out]; exact H9.out, HSZ2.out, fun _ => by have h9 := HWN.out; simp only [if_true, if_neg hca, HT.out] at h9; exact h9, fun e => absurd e hab⟩
                  case measure => simp [lenV]; omega
                · have g1 : ((c : Int) == a) = false := by simp; omega
                  have g2 : ((c : Int) == b) = false := by simp; omega
                  go_wp2_with fail
                  go_roundw
                  case rel => exact ⟨n + 1, a6, c6, sent ++ [(S1, S2)], S1, S2, _, _, rfl, by simp [hsl], by omega, by rw [HLP2.out]; exact H8.out, HSZ2.out, fun _ => by have h9 := HWN.out; rw [if_neg hca, if_neg hcb] at h9; exact h9, fun e => absurd e hab⟩
                  case measure => simp [lenV]; omega
          case rest =>
            obtain ⟨n, adS, cS, sent, S1, S2, st, its, rfl, hsl, hnt, hMm, hSz, hWe, hE⟩ := hcut
            obtain ⟨wB, rfl⟩ : ∃ x, x = wc := ⟨_, rfl⟩
            have hql : (quanta l).length = m := by rw [quanta_len, HM.out]
            obtain ⟨qa, hqa⟩ : ∃ x, (quanta l)[a]? = some x := ⟨(quanta l)[a]'(by omega), by simp⟩
            obtain ⟨qb, hqb⟩ : ∃ x, (quanta l)[b]? = some x := ⟨(quanta l)[b]'(by omega), by simp⟩
            have eqa : q a = qa := by rw [← HQF.out]; simp [hqa]
            have eqb : q b = qb := by rw [← HQF.out]; simp [hqb]
            obtain ⟨gq, oq, rfl, hca, hcb⟩ : ∃ g o', adq = some ⟨g, o', none⟩ ∧ w2.cell? ⟨g, o' + a, none⟩ = some (.int .u64 (qa : Nat)) ∧ w2.cell? ⟨g, o' + b, none⟩ = some (.int .u64 (qb : Nat)) := by
              cases adq with
              | none => have := HQ0.out rfl; rw [this] at hql; simp at hql; omega
              | some g =>
                obtain ⟨hs, hcc⟩ := HQC.out g rfl a qa hqa
                obtain ⟨_, hcc2⟩ := HQC.out g rfl b qb hqb
                obtain ⟨g, o', sp⟩ := g
                simp only at hs
                subst hs
                exact ⟨g, o', rfl, hcc, hcc2⟩
            have k0 := cell_old hMm.upd hca
            have k1 := cell_old hMm.upd hcb
            have hqb' : ∀ (i x : Nat), (quanta l)[i]? = some x → x ≤ 65599 := fun i x hx => by
              unfold quanta at hx
              rw [List.getElem?_map] at hx
              cases h9 : l[i]? with
              | none => rw [h9] at hx; cases hx
              | some y => rw [h9] at hx; have := HLB.out y (List.mem_of_getElem? h9); have e9 : y + 64 = x := Option.some.inj hx; omega
            have ba := hqb' a qa hqa
            have bb := hqb' b qb hqb
            obtain ⟨qs, hqs⟩ : ∃ x, qa + qb = x := ⟨_, rfl⟩
            have es : IntKind.u64.wrap ((qa : Int) + qb) = (qs : Int) := by rw [IntKind.wrap_u64]; omega
            have hqsb : qs ≤ 131198 := by omega
            have hS0 := (Upd.refl Nowhere wB).drew
            have HPl := fun (m q : Nat) (hq : m + q < 340282366920938463463374607431768211456) u => Lib.hid (show Calls Try.prog 23 #[.agg #[.int .u64 (dg (m) 0 : Nat), .int .u64 (dg (m) 1 : Nat), .int .u64 (dg (m) 2 : Nat), .int .u64 (dg (m) 3 : Nat)], .agg #[.int .u64 (dg (q) 0 : Nat), .int .u64 (dg (q) 1 : Nat), .int .u64 (dg (q) 2 : Nat), .int .u64 (dg (q) 3 : Nat)]] u fun e w' => Gives u (.agg #[.int .u64 (dg (m + q) 0 : Nat), .int .u64 (dg (m + q) 1 : Nat), .int .u64 (dg (m + q) 2 : Nat), .int .u64 (dg (m + q) 3 : Nat)]) e w' from Sat.plus_num m q hq u)
            have HLe := fun (m q : Nat) (hm : m < 340282366920938463463374607431768211456) (hq : q < 340282366920938463463374607431768211456) u => Lib.hid (show Calls Try.prog 25 #[.agg #[.int .u64 (dg (m) 0 : Nat), .int .u64 (dg (m) 1 : Nat), .int .u64 (dg (m) 2 : Nat), .int .u64 (dg (m) 3 : Nat)], .agg #[.int .u64 (dg (q) 0 : Nat), .int .u64 (dg (q) 1 : Nat), .int .u64 (dg (q) 2 : Nat), .int .u64 (dg (q) 3 : Nat)]] u fun e w' => Gives u (.bool (decide (m < q))) e w' from Sat.less_num m q hm hq u)
            have HTi := fun (a c : Nat) (ha : a ≤ 18446744073709551615) (hc : c ≤ 18446744073709551615) u => Lib.hid (show Calls Try.prog 24 #[.int .u64 a, .int .u64 c] u fun e w' => Gives u (.agg #[.int .u64 (dg (a * c) 0 : Nat), .int .u64 (dg (a * c) 1 : Nat), .int .u64 (dg (a * c) 2 : Nat), .int .u64 (dg (a * c) 3 : Nat)]) e w' from Wide.times_any a c ha hc u)
            have C1 := fun u => HTi qa qb (by omega) (by omega) u
            have C2 := fun u => HTi M qs (by omega) (by omega) u
            have p1b : qa * qb ≤ 65599 * 65599 := Nat.mul_le_mul ba bb
            have p2b : M * qs ≤ 2000 * 131198 := Nat.mul_le_mul hM (by omega)
            obtain ⟨R, hR⟩ : ∃ x, qa * qb + M * qs = x := ⟨_, rfl⟩
            have C3 := fun u => HPl (qa * qb) (M * qs) (by omega) u
            rw [hR] at C3
            have hRb : R ≤ 4565627201 := by omega
            have HR := Lib.hid hR
            have lq : gq < wB.heap.size := cell_lt k0
            have HMM := Lib.hid hMm
            have HWE := Lib.hid hWe
            have HEE := Lib.hid hE
            have HQS := Lib.hid hqs
            clear hMm hWe hE hSz hca hcb hqa hqb hqb' hqs p1b p2b hR
            go_wp2_with fail
            go_cut [28] from 191 to 211 (fun rv wx => ∃ (nr : Nat), wB.heap.size ≤ nr ∧ rv = .pointer (some ⟨nr, 0, none⟩) ∧ Blk wx nr #[.int .u64 (dg (R) 0 : Nat), .int .u64 (dg (R) 1 : Nat), .int .u64 (dg (R) 2 : Nat), .int .u64 (dg (R) 3 : Nat)] TW ∧ Upd Nowhere wB wx)
            case first =>  -- SLOW
              go_region_held3 (fun w' => Upd Nowhere wB w' ∧ w'.cell? ⟨gq, oq + a, none⟩ = some (.int .u64 (qa : Nat)) ∧ w'.cell? ⟨gq, oq + b, none⟩ = some (.int .u64 (qb : Nat))) (first | exact ⟨hS0, k0, k1⟩ | assumption | exact keep2 ((Upd.refl _ _).alloc _) (by assumption) | exact keep2 (((Upd.refl _ _).drew).alloc _) (by assumption) | exact keepP2 (by assumption) (by first | exact Nat.le_refl _ | assumption) lq lq) (first | (go_at_call 24; refine (keepM2 (HTi _ _ (by omega) (by omega) _).out (by assumption)).mono ?_; rintro e w11 ⟨rfl, u11, hS11⟩; have sz11 := hS11.1.size; first | (with_reducible have hN := hold0 hN u11; obtain ⟨q0, q1, q2, q3, f0, f1, f2, f3⟩ := cells4 hN) | (with_reducible have hN := holdD hN u11; obtain ⟨q0, q1, q2, q3, f0, f1, f2, f3⟩ := cells4 hN) | (with_reducible have hN := holdN u11; obtain ⟨q0, q1, q2, q3, f0, f1, f2, f3⟩ := cells4 hN) | (with_reducible have hN := holdND u11; obtain ⟨q0, q1, q2, q3, f0, f1, f2, f3⟩ := cells4 hN) | skip) | (go_at_call 23; refine (keepM2 (C3 _).out (by assumption)).mono ?_; rintro e w13 ⟨rfl, u13, hS13⟩; have sz13 := hS13.1.size; first | (with_reducible have hN := hold0 hN u13; obtain ⟨q0, q1, q2, q3, f0, f1, f2, f3⟩ := cells4 hN) | (with_reducible have hN := holdD hN u13; obtain ⟨q0, q1, q2, q3, f0, f1, f2, f3⟩ := cells4 hN) | (with_reducible have hN := holdN u13; obtain ⟨q0, q1, q2, q3, f0, f1, f2, f3⟩ := cells4 hN) | (with_reducible have hN := holdND u13; obtain ⟨q0, q1, q2, q3, f0, f1, f2, f3⟩ := cells4 hN) | skip))
              all_goals
                rename_i hSF
                have hUF := hSF.1
                clear hSF
                go_wp2_with fail
                go_meet
                exact ⟨_, (by first | exact Nat.le_refl _ | assumption), rfl, (by repeat (first | with_reducible exact hN.put4 _ _ _ _ | with_reducible exact hN | with_reducible exact Blk.new _ _ _ | with_reducible exact (Blk.new _ _ _).put4 _ _ _ _ | with_reducible refine Blk.drew ?_)), (by repeat (first | with_reducible exact hUF | with_reducible refine Upd.drew ?_ | with_reducible refine Upd.put4 ?_ (by first | exact Nat.le_refl _ | assumption) _ _ _ _ | with_reducible refine Upd.alloc ?_ _))⟩
            case rest =>
              obtain ⟨nr, hnr, rfl, hBR, hUR⟩ := hcut
              obtain ⟨wR, rfl⟩ : ∃ x, x = wc := ⟨_, rfl⟩
              have HBR := Lib.hid hBR
              have HUR := Lib.hid hUR
              clear hBR C1 C2 C3 hS0
              have k0R := cell_old hUR k0
              have k1R := cell_old hUR k1
              clear k0 k1 hUR
              go_wp2_with fail
              go_loopw [214] (fun i wo => ∃ (j : Nat), j ≤ n ∧ i = .int .i64 j ∧ Upd Nowhere wR wo) (fun i _ => n - (intOf i).toNat)
              case atStart => exact ⟨0, by omega, rfl, Upd.refl _ _⟩
              case round =>
                obtain ⟨j, hj, rfl, hUo⟩ := hrel
                obtain ⟨wO, rfl⟩ : ∃ x, x = wr := ⟨_, rfl⟩
                by_cases hlt3 : j < n
                · have hI3 : (j : Int) < n := by omega
                  have hab : a ≠ b := fun e => by have h9 := HEE.out e; rw [h9] at hsl; simp at hsl; omega
                  have W := Lib.hid (HWE.out hab)
                  obtain ⟨pj, hpj⟩ : ∃ x, sent[j]? = some x := ⟨sent[j]'(by omega), by simp⟩
                  obtain ⟨gS, rfl, hS⟩ := sent_form HMM.out.own (by omega)
                  obtain ⟨c3, c4⟩ := hS j pj hpj
                  have hfw := HWE.out hab
                  have hpjm := hfw.le pj (List.mem_of_getElem? hpj)
                  have hfew := hfw.few
                  have hMn : M * sent.length ≤ 2000 * 300 := Nat.mul_le_mul hM (by omega)
                  have hpb1 : pj.1 ≤ 600000 := by omega
                  have hpb2 : pj.2 ≤ 600000 := by omega
                  obtain ⟨j1, hj1⟩ : ∃ y, j + 1 = y := ⟨_, rfl⟩
                  obtain ⟨r, hr, hrj⟩ : ∃ y, K % j1 = y ∧ y ≤ j := ⟨_, rfl, by have := Nat.mod_lt K (show 0 < j1 by omega); omega⟩
                  obtain ⟨s7, hs7, hs6⟩ : ∃ y, K % 7 = y ∧ y ≤ 6 := ⟨_, rfl, by omega⟩
                  obtain ⟨s8, hs8⟩ : ∃ y, 1 + s7 = y := ⟨_, rfl⟩
                  have eK : IntKind.i64.wrap (K : Int) = (K : Int) := by rw [IntKind.wrap_i64]; omega
                  have ej1 : IntKind.i64.wrap ((j : Int) + 1) = (j1 : Int) := by rw [IntKind.wrap_i64]; omega
                  have ej0 : ¬ j1 = 0 := by omega
                  have er : (K : Int) % j1 = (r : Int) := by rw [← hr]; omega
                  have er' : (K : Int).tmod j1 = (r : Int) := by rw [Int.tmod_eq_emod_of_nonneg (by omega)]; exact er
                  have ewr : IntKind.i64.wrap (r : Int) = (r : Int) := by rw [IntKind.wrap_i64]; omega
                  have e7 : (K : Int) % 7 = (s7 : Int) := by rw [← hs7]; omega
                  have e7' : (K : Int).tmod 7 = (s7 : Int) := by rw [Int.tmod_eq_emod_of_nonneg (by omega)]; exact e7
                  have ew7 : IntKind.i64.wrap (s7 : Int) = (s7 : Int) := by rw [IntKind.wrap_i64]; omega
                  have ew8 : IntKind.i64.wrap (1 + (s7 : Int)) = (s8 : Int) := by rw [IntKind.wrap_i64]; omega
                  have hs9 : 1 ≤ s8 ∧ s8 ≤ 7 := by omega
                  have c3o := cell_old HUR.out c3
                  have c4o := cell_old HUR.out c4
                  have HS := fun (i : Nat) (p : Nat × Nat) (h : sent[i]? = some p) => Lib.hid (hS i p h)
                  have HPJ := Lib.hid hpj
                  clear c3 c4 hS hfw hpjm hfew hMn hr hs7 hs8 hpj hj1
                  go_wp2_with fail
                  go_loopw [30] (fun iv wi => ∃ (d : Nat), d ≤ j + 7 ∧ iv = .int .i64 d ∧ Upd Nowhere wR wi) (fun iv _ => j + 8 - (intOf iv).toNat)
                  case atStart => exact ⟨r, by omega, rfl, hUo⟩
                  case round =>
                    clear hUo er er' ewr ej0 ej1 hrj
                    obtain ⟨d, hd, rfl, hUi⟩ := hrel
                    obtain ⟨wI, rfl⟩ : ∃ x, x = wr := ⟨_, rfl⟩
                    by_cases hlt4 : d ≤ j
                    · have hI4 : (d : Int) ≤ j := by omega
                      obtain ⟨pi, hpi⟩ : ∃ x, sent[d]? = some x := ⟨sent[d]'(by omega), by simp⟩
                      obtain ⟨c1, c2⟩ := (HS d pi hpi).out
                      have c1i := cell_old hUi (cell_old HUR.out c1)
                      have c2i := cell_old hUi (cell_old HUR.out c2)
                      have c3i := cell_old hUi c3o
                      have c4i := cell_old hUi c4o
                      have k0i := cell_old hUi k0R
                      have k1i := cell_old hUi k1R
                      have hmn := W.out.mono d j pi pj hlt4 hpi HPJ.out
                      have htwo := fair_two hmn.1 hmn.2 (W.out.band pi (List.mem_of_getElem? hpi)) (W.out.band pj (List.mem_of_getElem? HPJ.out))
                      rw [eqa, eqb, HQS.out, HR.out] at htwo
                      obtain ⟨x1, hx1⟩ : ∃ y, pj.1 - pi.1 = y := ⟨_, rfl⟩
                      obtain ⟨x2, hx2⟩ : ∃ y, pj.2 - pi.2 = y := ⟨_, rfl⟩
                      rw [hx1, hx2] at htwo
                      have ex1 : IntKind.u64.wrap ((pj.1 : Int) - pi.1) = (x1 : Int) := by rw [IntKind.wrap_u64]; omega
                      have ex2 : IntKind.u64.wrap ((pj.2 : Int) - pi.2) = (x2 : Int) := by rw [IntKind.wrap_u64]; omega
                      have hx1b : x1 ≤ 600000 := by omega
                      have hx2b : x2 ≤ 600000 := by omega
                      have hI5 : (d : Int) < n := by omega
                      have hX1 : x1 * qb ≤ 600000 * 65599 := Nat.mul_le_mul hx1b bb
                      have hX2 : x2 * qa ≤ 600000 * 65599 := Nat.mul_le_mul hx2b ba
                      obtain ⟨X, hX⟩ : ∃ y, x1 * qb = y := ⟨_, rfl⟩
                      obtain ⟨Y, hY⟩ : ∃ y, x2 * qa = y := ⟨_, rfl⟩
                      have T1 := fun u => HTi x1 qb (by omega) (by omega) u
                      have T2 := fun u => HTi x2 qa (by omega) (by omega) u
                      rw [hX] at T1 htwo hX1
                      rw [hY] at T2 htwo hX2
                      clear c1 c2 hx1 hx2 hmn hX hY
                      have HTW := Lib.hid htwo
                      have HPI := Lib.hid hpi
                      have HUI := Lib.hid hUi
                      clear htwo hpi
                      go_upto_region 43 with fail
                      have lS : gS < wI.heap.size := cell_lt c1i
                      have lqi : gq < wI.heap.size := cell_lt k0i
                      go_cut [31] from 231 to 246 (fun rv wx => ∃ (nx : Nat), wI.heap.size ≤ nx ∧ rv = .pointer (some ⟨nx, 0, none⟩) ∧ Blk wx nx #[.int .u64 (dg (X) 0 : Nat), .int .u64 (dg (X) 1 : Nat), .int .u64 (dg (X) 2 : Nat), .int .u64 (dg (X) 3 : Nat)] TW ∧ Upd Nowhere wI wx)
                      case first =>  -- SLOW
                        have hS0 := (Upd.refl Nowhere wI).drew
                        go_region_held3 (fun w' => Upd Nowhere wI w' ∧ w'.cell? ⟨gS, j * 2, none⟩ = some (.int .u64 (pj.1 : Nat)) ∧ w'.cell? ⟨gS, d * 2, none⟩ = some (.int .u64 (pi.1 : Nat)) ∧ w'.cell? ⟨gq, oq + b, none⟩ = some (.int .u64 (qb : Nat))) (first | exact ⟨hS0, c3i, c1i, k1i⟩ | assumption | exact keep3 ((Upd.refl _ _).alloc _) (by assumption) | exact keep3 (((Upd.refl _ _).drew).alloc _) (by assumption) | exact keepP3 (by assumption) (by first | exact Nat.le_refl _ | assumption) lS lS lqi) ((go_at_call 24; refine (keepM3 (T1 _).out (by assumption)).mono ?_; rintro e w11 ⟨rfl, u11, hS11⟩; have sz11 := hS11.1.size; first | (with_reducible have hN := hold0 hN u11; obtain ⟨q0, q1, q2, q3, f0, f1, f2, f3⟩ := cells4 hN) | (with_reducible have hN := holdD hN u11; obtain ⟨q0, q1, q2, q3, f0, f1, f2, f3⟩ := cells4 hN) | (with_reducible have hN := holdN u11; obtain ⟨q0, q1, q2, q3, f0, f1, f2, f3⟩ := cells4 hN) | (with_reducible have hN := holdND u11; obtain ⟨q0, q1, q2, q3, f0, f1, f2, f3⟩ := cells4 hN) | skip))
                        all_goals
                          rename_i hSF
                          have hUF := hSF.1
                          clear hSF
                          go_wp2_with fail
                          go_meet
                          exact ⟨_, (by first | exact Nat.le_refl _ | assumption), rfl, (by repeat (first | with_reducible exact hN.put4 _ _ _ _ | with_reducible exact hN | with_reducible exact Blk.new _ _ _ | with_reducible exact (Blk.new _ _ _).put4 _ _ _ _ | with_reducible refine Blk.drew ?_)), (by repeat (first | with_reducible exact hUF | with_reducible refine Upd.drew ?_ | with_reducible refine Upd.put4 ?_ (by first | exact Nat.le_refl _ | assumption) _ _ _ _ | with_reducible refine Upd.alloc ?_ _))⟩
                      case rest =>
                        obtain ⟨nx, hnx, rfl, hBX, hUX⟩ := hcut
                        obtain ⟨wX, rfl⟩ : ∃ x, x = wc := ⟨_, rfl⟩
                        clear T1 ex1 c3i c1i k1i
                        have c2x := cell_old hUX c2i
                        have c4x := cell_old hUX c4i
                        have k0x := cell_old hUX k0i
                        have HBX := Lib.hid hBX
                        have HUX := Lib.hid hUX
                        have lSx : gS < wX.heap.size := cell_lt c2x
                        have lqx : gq < wX.heap.size := cell_lt k0x
                        clear hBX hUX c2i c4i k0i lS lqi
                        go_upto_region 44 with fail
                        go_cut [32] from 247 to 262 (fun rv wx => ∃ (nx : Nat), wX.heap.size ≤ nx ∧ rv = .pointer (some ⟨nx, 0, none⟩) ∧ Blk wx nx #[.int .u64 (dg (Y) 0 : Nat), .int .u64 (dg (Y) 1 : Nat), .int .u64 (dg (Y) 2 : Nat), .int .u64 (dg (Y) 3 : Nat)] TW ∧ Upd Nowhere wX wx)
                        case first =>  -- SLOW
                          have hS0 := (Upd.refl Nowhere wX).drew
                          go_region_held3 (fun w' => Upd Nowhere wX w' ∧ w'.cell? ⟨gS, j * 2 + 1, none⟩ = some (.int .u64 (pj.2 : Nat)) ∧ w'.cell? ⟨gS, d * 2 + 1, none⟩ = some (.int .u64 (pi.2 : Nat)) ∧ w'.cell? ⟨gq, oq + a, none⟩ = some (.int .u64 (qa : Nat))) (first | exact ⟨hS0, c4x, c2x, k0x⟩ | assumption | exact keep3 ((Upd.refl _ _).alloc _) (by assumption) | exact keep3 (((Upd.refl _ _).drew).alloc _) (by assumption) | exact keepP3 (by assumption) (by first | exact Nat.le_refl _ | assumption) lSx lSx lqx) ((go_at_call 24; refine (keepM3 (T2 _).out (by assumption)).mono ?_; rintro e w11 ⟨rfl, u11, hS11⟩; have sz11 := hS11.1.size; first | (with_reducible have hN := hold0 hN u11; obtain ⟨q0, q1, q2, q3, f0, f1, f2, f3⟩ := cells4 hN) | (with_reducible have hN := holdD hN u11; obtain ⟨q0, q1, q2, q3, f0, f1, f2, f3⟩ := cells4 hN) | (with_reducible have hN := holdN u11; obtain ⟨q0, q1, q2, q3, f0, f1, f2, f3⟩ := cells4 hN) | (with_reducible have hN := holdND u11; obtain ⟨q0, q1, q2, q3, f0, f1, f2, f3⟩ := cells4 hN) | skip))
                          all_goals
                            rename_i hSF
                            have hUF := hSF.1
                            clear hSF
                            go_wp2_with fail
                            go_meet
                            exact ⟨_, (by first | exact Nat.le_refl _ | assumption), rfl, (by repeat (first | with_reducible exact hN.put4 _ _ _ _ | with_reducible exact hN | with_reducible exact Blk.new _ _ _ | with_reducible exact (Blk.new _ _ _).put4 _ _ _ _ | with_reducible refine Blk.drew ?_)), (by repeat (first | with_reducible exact hUF | with_reducible refine Upd.drew ?_ | with_reducible refine Upd.put4 ?_ (by first | exact Nat.le_refl _ | assumption) _ _ _ _ | with_reducible refine Upd.alloc ?_ _))⟩
                        case rest =>
                          obtain ⟨ny, hny, rfl, hBY, hUY⟩ := hcut
                          obtain ⟨wY, rfl⟩ : ∃ x, x = wc := ⟨_, rfl⟩
                          clear T2 ex2 c2x c4x k0x
                          have hBXY := HBX.out.kept hUY id
                          have hBRY := ((HBR.out.kept HUI.out id).kept HUX.out id).kept hUY id
                          have hUW := ((HUI.out.trans HUX.out (fun _ _ h => h)).trans hUY (fun _ _ h => h))
                          have hS0 := (Upd.refl Nowhere wY).drew
                          obtain ⟨y0, y1, y2, y3, _, _, _, _⟩ := cells4 hBY
                          obtain ⟨z0, z1, z2, z3, _, _, _, _⟩ := cells4 hBRY
                          obtain ⟨v0, v1, v2, v3, _, _, _, _⟩ := cells4 hBXY
                          obtain ⟨t1, t2⟩ := HTW.out
                          have HLf := fun (m q : Nat) (hm : m < 340282366920938463463374607431768211456) (hq : q < 340282366920938463463374607431768211456) (h : ¬ m < q) u => Lib.hid (show Calls Try.prog 25 #[.agg #[.int .u64 (dg (m) 0 : Nat), .int .u64 (dg (m) 1 : Nat), .int .u64 (dg (m) 2 : Nat), .int .u64 (dg (m) 3 : Nat)], .agg #[.int .u64 (dg (q) 0 : Nat), .int .u64 (dg (q) 1 : Nat), .int .u64 (dg (q) 2 : Nat), .int .u64 (dg (q) 3 : Nat)]] u fun e w' => Gives u (.bool false) e w' by have h9 := (HLe m q hm hq u).out; rw [decide_eq_false h] at h9; exact h9)
                          clear hBY hBXY hBRY hUY
                          go_upto_region 45 with fail
                          go_region_held3 (fun w' => Upd Nowhere wY w' ∧ w'.cell? ⟨ny, 0, none⟩ = some (.int .u64 (dg Y 0 : Nat)) ∧ w'.cell? ⟨ny, 1, none⟩ = some (.int .u64 (dg Y 1 : Nat)) ∧ w'.cell? ⟨ny, 2, none⟩ = some (.int .u64 (dg Y 2 : Nat)) ∧ w'.cell? ⟨ny, 3, none⟩ = some (.int .u64 (dg Y 3 : Nat)) ∧ w'.cell? ⟨nr, 0, none⟩ = some (.int .u64 (dg R 0 : Nat)) ∧ w'.cell? ⟨nr, 1, none⟩ = some (.int .u64 (dg R 1 : Nat)) ∧ w'.cell? ⟨nr, 2, none⟩ = some (.int .u64 (dg R 2 : Nat)) ∧ w'.cell? ⟨nr, 3, none⟩ = some (.int .u64 (dg R 3 : Nat)) ∧ w'.cell? ⟨nx, 0, none⟩ = some (.int .u64 (dg X 0 : Nat)) ∧ w'.cell? ⟨nx, 1, none⟩ = some (.int .u64 (dg X 1 : Nat)) ∧ w'.cell? ⟨nx, 2, none⟩ = some (.int .u64 (dg X 2 : Nat)) ∧ w'.cell? ⟨nx, 3, none⟩ = some (.int .u64 (dg X 3 : Nat))) (first | exact ⟨hS0, y0, y1, y2, y3, z0, z1, z2, z3, v0, v1, v2, v3⟩ | assumption) (first | (go_at_call 23; refine (keepC12 (HPl _ _ (by omega) _).out (by assumption)).mono ?_; rintro e w21 ⟨rfl, hS21⟩) | (go_at_call 25; refine (keepC12 (HLf _ _ (by omega) (by omega) (by omega) _).out (by assumption)).mono ?_; rintro e w22 ⟨rfl, hS22⟩))
                          obtain ⟨d1, hd1, hd2, hd3⟩ : ∃ y, d + s8 = y ∧ d < y ∧ y ≤ j + 7 := ⟨_, rfl, by omega, by omega⟩
                          have ed : IntKind.i64.wrap ((d : Int) + s8) = (d1 : Int) := by rw [IntKind.wrap_i64]; omega
                          have hUF := hUW.trans hS22.1 (fun _ _ h => h)
                          clear hS22 y0 y1 y2 y3 z0 z1 z2 z3 v0 v1 v2 v3 hd1
                          go_wp2_with fail
                          go_roundw
                          case rel => exact ⟨d1, hd3, by go_num, hUF⟩
                          case measure => simp [intOf]; omega
                    · have hI4 : ¬ (d : Int) ≤ j := by omega
                      go_wp2_with fail
                      go_roundw
                      case rel => exact ⟨j + 1, by omega, by go_num, hUi⟩
                      case measure => simp [intOf]; omega
                · have hI3 : ¬ (j : Int) < n := by omega
                  go_wp2_with fail
                  refine (HL _).out.mono ?_
                  rintro e w9 ⟨rfl, u9⟩
                  go_wp2_with fail
                  go_ret
                  exact ⟨rfl, (((HU.out.trans HMM.out.upd (fun _ _ h => h)).trans HUR.out (fun _ _ h => h)).trans hUo (fun _ _ h => h)).trans u9 (fun _ _ h => h)⟩
end Go.Proofs.Ytopibbaopglggaa.Drr
