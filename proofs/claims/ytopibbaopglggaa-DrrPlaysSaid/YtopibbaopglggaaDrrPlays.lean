/- DrrPlays: the program's turns and the reference's, side by side. -/
import Derived.Test.YtopibbaopglggaaRef29c
import Derived.Test.YtopibbaopglggaaDrrHas
import Derived.Test.YtopibbaopglggaaDrrLives
import Derived.Test.YtopibbaopglggaaDrrOrder
import Derived.Test.YtopibbaopglggaaRef06
import Derived.Test.YtopibbaopglggaaOpen
import Derived.Deep.RegionHeld3
import Derived.Deep.DeepCutAuto
import Derived.Deep.CutBlock
namespace Go.Proofs.Ytopibbaopglggaa.Drr
open Go.RowKit Go.Proofs BigFrame
open Ref29 (R It Of perC irow cof)
set_option maxHeartbeats 1000000
set_option maxRecDepth 1000000
abbrev TAc : TypeId := 71
/-- Both, and a block that neither touches. -/
structure P0 (x : Option Nat) (cs : Array Value) (w0 w : World) (t b n gq oq cq : Nat) (q : Nat → Nat) (st : Turn) (its : Items) (st2 : Turn) (items : List It) (cv iv rv : Value) : Prop where
  has : HasD (fun k => Of b cv iv rv k ∨ x = some k) w0 w t n q st its
  ref : R w0.heap.size w b n n gq oq cq cv iv rv q st2.cr items st2.row st2.begun
  upd : Upd Nowhere w0 w
  blk : ∀ k, x = some k → Blk w k cs TAc ∧ ¬ Of b cv iv rv k
def P (x : Option Nat) (cs : Array Value) (w0 w : World) (t b n gq oq cq : Nat) (q : Nat → Nat) (st : Turn) (its : Items) (st2 : Turn) (items : List It) : Prop :=
  ∃ cv iv rv, P0 x cs w0 w t b n gq oq cq q st its st2 items cv iv rv
section
variable {x : Option Nat} {cs : Array Value} {w0 w w' : World} {t b n gq oq cq : Nat} {q : Nat → Nat} {st st' : Turn} {its its' : Items} {st2 st2' : Turn} {items items' : List It} {cv iv rv : Value}
theorem P0.low (h : P0 x cs w0 w t b n gq oq cq q st its st2 items cv iv rv) : ∀ k, (Of b cv iv rv k ∨ x = some k) → k < w.heap.size := fun k hk => by
  rcases hk with hk | hk
  · exact (h.ref.lts hk).2
  · exact (h.blk k hk).1.lt
theorem P0.old (h : P0 x cs w0 w t b n gq oq cq q st its st2 items cv iv rv) (hu : Upd Nowhere w w') : P0 x cs w0 w' t b n gq oq cq q st its st2 items cv iv rv :=
  ⟨h.has.old hu, h.ref.old hu, h.upd.trans hu (fun _ _ h => h), fun k hk => ⟨(h.blk k hk).1.kept hu id, (h.blk k hk).2⟩⟩
theorem P.old (h : P x cs w0 w t b n gq oq cq q st its st2 items) (hu : Upd Nowhere w w') : P x cs w0 w' t b n gq oq cq q st its st2 items := by
  obtain ⟨cv, iv, rv, h⟩ := h
  exact ⟨cv, iv, rv, h.old hu⟩
theorem P.upd (h : P x cs w0 w t b n gq oq cq q st its st2 items) : Upd Nowhere w0 w := by
  obtain ⟨cv, iv, rv, h⟩ := h; exact h.upd
theorem P.fits (h : P x cs w0 w t b n gq oq cq q st its st2 items) : Fits n q its st := by
  obtain ⟨cv, iv, rv, h⟩ := h; exact h.has.fits
theorem P.npos (h : P x cs w0 w t b n gq oq cq q st its st2 items) : 0 < n ∧ n ≤ 64 := by
  obtain ⟨cv, iv, rv, h⟩ := h; exact h.has.npos
theorem P.blk {k : Nat} (h : P (some k) cs w0 w t b n gq oq cq q st its st2 items) : Blk w k cs TAc := by
  obtain ⟨cv, iv, rv, h⟩ := h; exact (h.blk k rfl).1
theorem P0.turn (h : P0 x cs w0 w t b n gq oq cq q st its st2 items cv iv rv) (hH : HasD (fun k => Of b cv iv rv k ∨ x = some k) w0 w' t n q st' its') (hu : Upd (fun k => w0.heap.size ≤ k ∧ ¬ (Of b cv iv rv k ∨ x = some k)) w w') : P0 x cs w0 w' t b n gq oq cq q st' its' st2 items cv iv rv :=
  ⟨hH, h.ref.kept hu (fun _ hk h2 => h2.2 (.inl hk)) (fun h2 => by have := h.ref.qb; omega), h.upd.trans hu (fun _ hk h => absurd hk (Nat.not_lt.2 h.1)), fun k hk => ⟨(h.blk k hk).1.kept hu (fun h2 => h2.2 (.inr hk)), (h.blk k hk).2⟩⟩
theorem P0.turned (h : P0 x cs w0 w t b n gq oq cq q st its st2 items cv iv rv) (ht : Ref29.Turned w0.heap.size w w' b n gq oq cq cv iv rv q st2'.cr items' st2'.row st2'.begun) : P x cs w0 w' t b n gq oq cq q st its st2' items' := by
  obtain ⟨iv', rv', h1, h2, h3⟩ := ht
  have hnew : ∀ k, (Of b cv iv' rv' k ∨ x = some k) → (Of b cv iv rv k ∨ x = some k) ∨ w.heap.size ≤ k := fun k hk => by
    rcases hk with hk | hk
    · exact (h2 k hk).imp .inl id
    · exact .inl (.inr hk)
  have hboth : ∀ k, k < w.heap.size → (Of b cv iv rv k ∨ x = some k) ∨ k < w0.heap.size ∨ True := fun _ _ => .inr (.inr trivial)
  have hH : HasD (fun k => (Of b cv iv' rv' k ∨ x = some k) ∨ Of b cv iv rv k) w0 w t n q st its := h.has.re (fun k hk => by
    rcases hk with hk | hk
    · exact hnew k hk
    · exact .inl (.inl hk))
  have hH' := hH.kept h3 (fun k hk _ => .inl (.inr hk))
  refine ⟨cv, iv', rv', hH'.re (fun k hk => .inl (.inl hk)), h1, h.upd.trans h3 (fun k hk hk2 => absurd hk (Nat.not_lt.2 (h.ref.lts hk2).1)), fun k hk => ⟨(h.blk k hk).1.kept h3 (h.blk k hk).2, fun hr => ?_⟩⟩
  rcases h2 k hr with h4 | h4
  · exact (h.blk k hk).2 h4
  · exact absurd (h.blk k hk).1.lt (Nat.not_lt.2 h4)
theorem P.none (h : P x cs w0 w t b n gq oq cq q st its st2 items) : P Option.none #[] w0 w t b n gq oq cq q st its st2 items := by
  obtain ⟨cv, iv, rv, h⟩ := h
  exact ⟨cv, iv, rv, ⟨h.has.re (fun k hk => by
    rcases hk with hk | hk
    · exact .inl (.inl hk)
    · cases hk), h.ref, h.upd, fun k hk => by cases hk⟩⟩
theorem P.some (h : P Option.none #[] w0 w t b n gq oq cq q st its st2 items) (cs : Array Value) : P (Option.some w.heap.size) cs w0 (w.alloc (.cells cs TAc)) t b n gq oq cq q st its st2 items := by
  obtain ⟨cv, iv, rv, h⟩ := h
  have hu := (Upd.refl Nowhere w).alloc (.cells cs TAc)
  refine ⟨cv, iv, rv, ⟨(h.has.re (fun k hk => ?_)).old hu, h.ref.old hu, h.upd.alloc _, fun k hk => ?_⟩⟩
  · rcases hk with hk | hk
    · exact .inl (.inl hk)
    · cases hk; exact .inr (Nat.le_refl _)
  · cases hk
    exact ⟨Blk.new _ _ _, fun hr => absurd (h.ref.lts hr).2 (Nat.lt_irrefl _)⟩
theorem t_push7 (h : P x cs w0 w t b n gq oq cq q st its st2 items) {c : Int} (hc : c < 0 ∨ (n : Int) ≤ c) (size idn : Int) :
    Calls Try.prog 21 #[.pointer (some ⟨t, 0, none⟩), .int .i64 c, .int .u64 size, .int .i64 idn] w fun e w' => e = .returned (.int .i64 7) ∧ P x cs w0 w' t b n gq oq cq q st its st2 items := by
  have h' := h
  obtain ⟨cv, iv, rv, h0⟩ := h
  refine (hasD_push7 h0.has hc size idn).mono ?_
  rintro e w' ⟨rfl, rfl⟩
  exact ⟨rfl, h'⟩
theorem r_push7 (h : P x cs w0 w t b n gq oq cq q st its st2 items) {c : Int} (hc : c < 0 ∨ (n : Int) ≤ c) (size idn : Int) :
    Calls Try.prog 38 #[.pointer (some ⟨b, 0, none⟩), .int .i64 c, .int .u64 size, .int .i64 idn] w fun e w' => e = .returned (.int .i64 7) ∧ P x cs w0 w' t b n gq oq cq q st its st2 items := by
  have h' := h
  obtain ⟨cv, iv, rv, h0⟩ := h
  refine (Ref29.push7 h0.ref hc size idn).mono ?_
  rintro e w' ⟨rfl, rfl⟩
  exact ⟨rfl, h'⟩
theorem t_push12 (h : P x cs w0 w t b n gq oq cq q st its st2 items) {c : Nat} (hc : c < n) (size : Nat) (idn : Int) (hs : size = 0 ∨ 65535 < size) :
    Calls Try.prog 21 #[.pointer (some ⟨t, 0, none⟩), .int .i64 c, .int .u64 size, .int .i64 idn] w fun e w' => e = .returned (.int .i64 12) ∧ P x cs w0 w' t b n gq oq cq q st its st2 items := by
  have h' := h
  obtain ⟨cv, iv, rv, h0⟩ := h
  refine (hasD_push12 h0.has hc size idn hs).mono ?_
  rintro e w' ⟨rfl, rfl⟩
  exact ⟨rfl, h'⟩
theorem r_push12 (h : P x cs w0 w t b n gq oq cq q st its st2 items) {c : Nat} (hc : c < n) (size : Nat) (idn : Int) (hs : size = 0 ∨ 65535 < size) :
    Calls Try.prog 38 #[.pointer (some ⟨b, 0, none⟩), .int .i64 c, .int .u64 size, .int .i64 idn] w fun e w' => e = .returned (.int .i64 12) ∧ P x cs w0 w' t b n gq oq cq q st its st2 items := by
  have h' := h
  obtain ⟨cv, iv, rv, h0⟩ := h
  refine (Ref29.push12 h0.ref hc size idn hs).mono ?_
  rintro e w' ⟨rfl, rfl⟩
  exact ⟨rfl, h'⟩
theorem t_push20 (h : P x cs w0 w t b n gq oq cq q st its st2 items) {c : Nat} (hc : c < n) (size : Nat) (idn : Int) (h1 : 1 ≤ size) (h2 : size ≤ 65535) (hl : (its c).length = 1024) :
    Calls Try.prog 21 #[.pointer (some ⟨t, 0, none⟩), .int .i64 c, .int .u64 size, .int .i64 idn] w fun e w' => e = .returned (.int .i64 20) ∧ P x cs w0 w' t b n gq oq cq q st its st2 items := by
  have h' := h
  obtain ⟨cv, iv, rv, h0⟩ := h
  refine (hasD_push20 h0.has hc size idn h1 h2 hl).mono ?_
  rintro e w' ⟨rfl, hu⟩
  exact ⟨rfl, h'.old hu⟩
theorem r_push20 (h : P x cs w0 w t b n gq oq cq q st its st2 items) (hi : items.length ≤ 70000) {c : Nat} (hc : c < n) (size : Nat) (idn : Int) (h1 : 1 ≤ size) (h2 : size ≤ 65535) (hl : (perC items c).length = 1024) :
    Calls Try.prog 38 #[.pointer (some ⟨b, 0, none⟩), .int .i64 c, .int .u64 size, .int .i64 idn] w fun e w' => e = .returned (.int .i64 20) ∧ P x cs w0 w' t b n gq oq cq q st its st2 items := by
  have h' := h
  obtain ⟨cv, iv, rv, h0⟩ := h
  refine (Ref29.push20 h0.ref (by omega) hc size idn h1 h2 (by rw [Ref29.cof_perC]; omega)).mono ?_
  rintro e w' ⟨rfl, rfl⟩
  exact ⟨rfl, h'⟩
theorem t_push (h : P x cs w0 w t b n gq oq cq q st its st2 items) {c : Nat} (hc : c < n) (size : Nat) (idn : Int) (h1 : 1 ≤ size) (h2 : size ≤ 65535) (hl : (its c).length < 1024) :
    Calls Try.prog 21 #[.pointer (some ⟨t, 0, none⟩), .int .i64 c, .int .u64 size, .int .i64 idn] w fun e w' => e = .returned (.int .i64 0) ∧ P x cs w0 w' t b n gq oq cq q (came st its c) (upd its c (its c ++ [(size, idn)])) st2 items := by
  obtain ⟨cv, iv, rv, h0⟩ := h
  refine (hasD_push h0.has h0.low hc size idn h1 h2 hl).mono ?_
  rintro e w' ⟨rfl, h3, h4⟩
  exact ⟨rfl, cv, iv, rv, h0.turn h3 h4⟩
theorem r_push (h : P x cs w0 w t b n gq oq cq q st its st2 items) (hi : items.length ≤ 70000) (hr : st2.row.length ≤ 64) {c : Nat} (hc : c < n) (size : Nat) (idn : Int) (h1 : 1 ≤ size) (h2 : size ≤ 65535) (hl : (perC items c).length < 1024) :
    Calls Try.prog 38 #[.pointer (some ⟨b, 0, none⟩), .int .i64 c, .int .u64 size, .int .i64 idn] w fun e w' => e = .returned (.int .i64 0) ∧ P x cs w0 w' t b n gq oq cq q st its (came st2 (perC items) c) (items ++ [(c, size, idn)]) := by
  obtain ⟨cv, iv, rv, h0⟩ := h
  refine (Ref29.push_ok h0.ref h0.upd.size (by omega) hr hc size idn h1 h2 (by rw [Ref29.cof_perC]; omega)).mono ?_
  rintro e w' ⟨rfl, h3⟩
  refine ⟨rfl, h0.turned (st2' := came st2 (perC items) c) ?_⟩
  rw [Ref29.cof_perC] at h3
  unfold came
  by_cases he : perC items c = []
  · rw [if_pos he]
    rw [if_pos (by rw [he]; rfl)] at h3
    exact h3
  · rw [if_neg he]
    rw [if_neg (fun h => he (List.eq_nil_of_length_eq_zero h))] at h3
    exact h3
theorem t_next0 (h : P x cs w0 w t b n gq oq cq q st its st2 items) (hz : tot its n = 0) :
    Calls Try.prog 22 #[.pointer (some ⟨t, 0, none⟩)] w fun e w' => e = .returned (.tuple #[.int .i64 0, .int .u64 0, .int .i64 0, .bool false]) ∧ P x cs w0 w' t b n gq oq cq q st its st2 items := by
  have h' := h
  obtain ⟨cv, iv, rv, h0⟩ := h
  refine (hasD_next0 h0.has hz).mono ?_
  rintro e w' ⟨rfl, rfl⟩
  exact ⟨rfl, h'⟩
theorem r_next0 (h : P x cs w0 w t b n gq oq cq q st its st2 items) (hr : st2.row = []) :
    Calls Try.prog 37 #[.pointer (some ⟨b, 0, none⟩)] w fun e w' => e = .returned (.tuple #[.agg #[.int .i64 0, .int .u64 0, .int .i64 0], .bool false]) ∧ P x cs w0 w' t b n gq oq cq q st its st2 items := by
  have h' := h
  obtain ⟨cv, iv, rv, h0⟩ := h
  have hR := h0.ref
  rw [hr] at hR
  refine (Ref29.next_none hR).mono ?_
  rintro e w' ⟨rfl, hu⟩
  exact ⟨rfl, h'.old hu⟩
theorem t_next (h : P x cs w0 w t b n gq oq cq q st its st2 items) {c : Nat} {r : List Nat} {cr : Nat → Nat} (hs : spin q (hdOf its) (meas n st + 1) st = ⟨c :: r, true, cr⟩) (hne : st.row ≠ []) {a : Nat × Int} {tl : List (Nat × Int)} (hx : its c = a :: tl) :
    Calls Try.prog 22 #[.pointer (some ⟨t, 0, none⟩)] w fun e w' => e = .returned (.tuple #[.int .i64 c, .int .u64 (a.1 : Nat), .int .i64 a.2, .bool true]) ∧ P x cs w0 w' t b n gq oq cq q (left c r cr a.1 tl.isEmpty) (upd its c tl) st2 items := by
  obtain ⟨cv, iv, rv, h0⟩ := h
  refine (hasD_next h0.has h0.low hs hne hx).mono ?_
  rintro e w' ⟨rfl, h3, h4⟩
  exact ⟨rfl, cv, iv, rv, h0.turn h3 h4⟩
theorem r_next (h : P x cs w0 w t b n gq oq cq q st its st2 items) (hf : Fits n q (perC items) st2) (hi : items.length ≤ 70000) {c : Nat} {r : List Nat} {cr : Nat → Nat} (hs : spin q (hdOf (perC items)) (meas n st2 + 1) st2 = ⟨c :: r, true, cr⟩) (hne : st2.row ≠ []) {a : Nat × Int} {tl : List (Nat × Int)} (hx : perC items c = a :: tl) :
    Calls Try.prog 37 #[.pointer (some ⟨b, 0, none⟩)] w fun e w' => e = .returned (.tuple #[.agg #[.int .i64 (c : Nat), .int .u64 (a.1 : Nat), .int .i64 a.2], .bool true]) ∧
      ∃ items', perC items' = upd (perC items) c tl ∧ (∀ e ∈ items', e ∈ items) ∧ P x cs w0 w' t b n gq oq cq q st its (left c r cr a.1 tl.isEmpty) items' := by
  have hn := h.npos
  obtain ⟨cv, iv, rv, h0⟩ := h
  refine (Ref29.next_some (st := st2) h0.ref hn.1 hn.2 hf hne h0.upd.size hi hs hx).mono ?_
  rintro e w' ⟨rfl, items', h1, _, h3, h4⟩
  exact ⟨rfl, items', h1, h3, h0.turned (st2' := left c r cr a.1 tl.isEmpty) h4⟩
end
end Go.Proofs.Ytopibbaopglggaa.Drr
