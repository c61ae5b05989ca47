/- drr, as a law meets it. -/
import Derived.Test.YtopibbaopglggaaDrr5
namespace Go.Proofs.Ytopibbaopglggaa.Drr
open Go.RowKit Go.Proofs BigFrame
open PairD (TR TE el)
set_option maxHeartbeats 4000000
set_option maxRecDepth 1000000
/-- Classes that were made since w0, off the blocks of A. -/
def HasD (A : Nat → Prop) (w0 w : World) (t n : Nat) (q : Nat → Nat) (st : Turn) (its : Items) : Prop :=
  ∃ gc cc rv rb rg, D w t gc cc n (tot its n) rv st q rb rg its ∧ (∀ k, DrrOf t gc n rv rb rg k → w0.heap.size ≤ k ∧ ¬ A k) ∧ w0.heap.size ≤ w.heap.size ∧ Fits n q its st
theorem tot_bound {its : Items} : ∀ {n : Nat}, (∀ i, i < n → (its i).length ≤ 1024) → tot its n ≤ n * 1024
  | 0, _ => Nat.zero_le _
  | n + 1, h => by
    have h1 := tot_bound (its := its) (n := n) (fun i hi => h i (by omega))
    have h2 := h n (by omega)
    rw [tot]; omega
theorem tot_zero {its : Items} : ∀ {n : Nat}, tot its n = 0 ↔ ∀ i, i < n → its i = []
  | 0 => ⟨fun _ i h => by omega, fun _ => rfl⟩
  | n + 1 => by
    rw [tot]
    constructor
    · intro h i hi
      rcases Nat.lt_or_ge i n with h1 | h1
      · exact tot_zero.1 (by omega) i h1
      · obtain rfl : i = n := by omega
        exact List.eq_nil_of_length_eq_zero (by omega)
    · intro h
      rw [tot_zero.2 (fun i hi => h i (by omega)), h n (by omega)]; rfl
section
variable {A A' : Nat → Prop} {w0 w w' : World} {t n : Nat} {q : Nat → Nat} {st : Turn} {its : Items}
theorem HasD.fits (h : HasD A w0 w t n q st its) : Fits n q its st := by
  obtain ⟨gc, cc, rv, rb, rg, h1, h2, h3, h4⟩ := h; exact h4
theorem HasD.npos (h : HasD A w0 w t n q st its) : 0 < n ∧ n ≤ 64 := by
  obtain ⟨gc, cc, rv, rb, rg, h1, h2, h3, h4⟩ := h; exact ⟨h1.npos, h1.nle⟩
theorem HasD.low (h : HasD A w0 w t n q st its) : w0.heap.size ≤ w.heap.size := by
  obtain ⟨gc, cc, rv, rb, rg, h1, h2, h3, h4⟩ := h; exact h3
theorem HasD.row_nil (h : HasD A w0 w t n q st its) : st.row = [] ↔ tot its n = 0 := by
  have hf := h.fits
  rw [tot_zero]
  constructor
  · intro hr i hi
    cases he : its i with
    | nil => rfl
    | cons x l => have := (hf.mem i).2 ⟨hi, by rw [he]; simp⟩; rw [hr] at this; cases this
  · intro ha
    cases hr : st.row with
    | nil => rfl
    | cons a b => have := (hf.mem a).1 (by rw [hr]; exact List.mem_cons_self ..); exact absurd (ha a this.1) this.2
theorem HasD.tot_le (h : HasD A w0 w t n q st its) : tot its n ≤ 65536 := by
  have h1 := tot_bound (its := its) h.fits.len
  have := h.npos
  omega
theorem HasD.kept (h : HasD A w0 w t n q st its) {S : Nat → Prop} (hu : Upd S w w') (hS : ∀ k, S k → k < w.heap.size → A k ∨ k < w0.heap.size) : HasD A w0 w' t n q st its := by
  obtain ⟨gc, cc, rv, rb, rg, h1, h2, h3, h4⟩ := h
  refine ⟨gc, cc, rv, rb, rg, h1.kept hu (fun k hk hSk => ?_), h2, Nat.le_trans h3 hu.size, h4⟩
  rcases hS k hSk (h1.lts hk) with h | h
  · exact (h2 k hk).2 h
  · exact absurd (h2 k hk).1 (Nat.not_le.2 h)
theorem HasD.old (h : HasD A w0 w t n q st its) (hu : Upd Nowhere w w') : HasD A w0 w' t n q st its := h.kept hu (fun _ h _ => h.elim)
theorem HasD.re (h : HasD A w0 w t n q st its) (hA : ∀ k, A' k → A k ∨ w.heap.size ≤ k) : HasD A' w0 w t n q st its := by
  obtain ⟨gc, cc, rv, rb, rg, h1, h2, h3, h4⟩ := h
  exact ⟨gc, cc, rv, rb, rg, h1, fun k hk => ⟨(h2 k hk).1, fun hk' => (hA k hk').elim (h2 k hk).2 (fun h => Nat.not_le.2 (h1.lts hk) h)⟩, h3, h4⟩
theorem hasD_new {l : List Nat} (h : Made w w' t l) (hu : Upd Nowhere w w') (hg : l.all good = true) : HasD (fun _ => False) w w' t l.length (fun i => l.getD i 0) fresh (fun _ => []) := by
  obtain ⟨gc, cc, rb, h1, h2⟩ := h
  have ht : tot (fun _ => ([] : List (Nat × Int))) l.length = 0 := tot_zero.2 (fun _ _ => rfl)
  have hq : ∀ i, i < l.length → 64 ≤ l.getD i 0 ∧ l.getD i 0 ≤ 4294967296 := fun i hi => by
    have := List.all_eq_true.1 hg (l[i]) (by simp)
    rw [good_iff] at this
    rw [List.getD_eq_getElem?_getD]
    simpa [hi] using this
  exact ⟨gc, cc, .slice none 0 0, rb, _, by rw [ht]; exact h1, fun k hk => ⟨h2 k hk, id⟩, hu.size, Fits.fresh (fun i hi => (hq i hi).1) (fun i hi => (hq i hi).2)⟩
theorem hasD_len (h : HasD A w0 w t n q st its) : Calls Try.prog 33 #[.pointer (some ⟨t, 0, none⟩)] w fun e w' => e = .returned (.int .i64 (tot its n : Nat)) ∧ w = w' := by
  obtain ⟨gc, cc, rv, rb, rg, h1, h2, h3, h4⟩ := h; exact len_any h1
theorem hasD_row (h : HasD A w0 w t n q st its) : Calls Try.prog 34 #[.pointer (some ⟨t, 0, none⟩)] w fun e w' => ∃ v', e = .returned v' ∧ RowAt w' v' (st.row.map fun x => .int .i64 (x : Nat)) ∧ Upd Nowhere w w' := by
  have := h.fits.rlen
  have := h.npos
  obtain ⟨gc, cc, rv, rb, rg, h1, h2, h3, h4⟩ := h; exact row_any h1 (by omega)
theorem hasD_credit (h : HasD A w0 w t n q st its) {c : Nat} (hc : c < n) : Calls Try.prog 39 #[.pointer (some ⟨t, 0, none⟩), .int .i64 c] w fun e w' => e = .returned (.int .u64 (st.cr c : Nat)) ∧ w = w' := by
  obtain ⟨gc, cc, rv, rb, rg, h1, h2, h3, h4⟩ := h; exact credit_in h1 hc
theorem hasD_credit0 (h : HasD A w0 w t n q st its) {c : Int} (hc : c < 0 ∨ (n : Int) ≤ c) : Calls Try.prog 39 #[.pointer (some ⟨t, 0, none⟩), .int .i64 c] w fun e w' => e = .returned (.int .u64 0) ∧ w = w' := by
  obtain ⟨gc, cc, rv, rb, rg, h1, h2, h3, h4⟩ := h; exact credit_out h1 hc
theorem hasD_push7 (h : HasD A w0 w t n q st its) {c : Int} (hc : c < 0 ∨ (n : Int) ≤ c) (size idn : Int) :
    Calls Try.prog 21 #[.pointer (some ⟨t, 0, none⟩), .int .i64 c, .int .u64 size, .int .i64 idn] w fun e w' => e = .returned (.int .i64 7) ∧ w = w' := by
  obtain ⟨gc, cc, rv, rb, rg, h1, h2, h3, h4⟩ := h; exact push_none h1 hc size idn
theorem hasD_push12 (h : HasD A w0 w t n q st its) {c : Nat} (hc : c < n) (size : Nat) (idn : Int) (hs : size = 0 ∨ 65535 < size) :
    Calls Try.prog 21 #[.pointer (some ⟨t, 0, none⟩), .int .i64 c, .int .u64 size, .int .i64 idn] w fun e w' => e = .returned (.int .i64 12) ∧ w = w' := by
  obtain ⟨gc, cc, rv, rb, rg, h1, h2, h3, h4⟩ := h; exact push_size h1 hc size idn hs
theorem hasD_push20 (h : HasD A w0 w t n q st its) {c : Nat} (hc : c < n) (size : Nat) (idn : Int) (h1 : 1 ≤ size) (h2 : size ≤ 65535) (hl : (its c).length = 1024) :
    Calls Try.prog 21 #[.pointer (some ⟨t, 0, none⟩), .int .i64 c, .int .u64 size, .int .i64 idn] w fun e w' => e = .returned (.int .i64 20) ∧ Upd Nowhere w w' := by
  obtain ⟨gc, cc, rv, rb, rg, g1, g2, g3, g4⟩ := h; exact push_full g1 hc size idn h1 h2 hl
/-- Classes that turned, off the same blocks. -/
theorem HasD.turned {gc cc cnt : Nat} {rv rv0 : Value} {rb : Nat → Nat} {rg rg0 : Nat → Option Nat} {st' : Turn} {its' : Items} (h2 : ∀ k, DrrOf t gc n rv0 rb rg0 k → w0.heap.size ≤ k ∧ ¬ A k) (h3 : w0.heap.size ≤ w.heap.size) (hA : ∀ k, A k → k < w.heap.size)
    (ht : Turned w w' t gc cc n cnt rv st' q rb rg its' rv0 rg0) (hc : cnt = tot its' n) (hf : Fits n q its' st') : HasD A w0 w' t n q st' its' ∧ Upd (fun k => w0.heap.size ≤ k ∧ ¬ A k) w w' := by
  obtain ⟨t1, t2, t3⟩ := ht
  subst hc
  refine ⟨⟨gc, cc, rv, rb, rg, t1, fun k hk => ?_, Nat.le_trans h3 t3.size, hf⟩, t3.mono (fun k _ h => h2 k h)⟩
  rcases t2 k hk with h | h
  · exact h2 k h
  · exact ⟨by omega, fun ha => by have := hA k ha; omega⟩
theorem hasD_push (h : HasD A w0 w t n q st its) (hA : ∀ k, A k → k < w.heap.size) {c : Nat} (hc : c < n) (size : Nat) (idn : Int) (h1 : 1 ≤ size) (h2 : size ≤ 65535) (hl : (its c).length < 1024) :
    Calls Try.prog 21 #[.pointer (some ⟨t, 0, none⟩), .int .i64 c, .int .u64 size, .int .i64 idn] w fun e w' => e = .returned (.int .i64 0) ∧ HasD A w0 w' t n q (came st its c) (upd its c (its c ++ [(size, idn)])) ∧ Upd (fun k => w0.heap.size ≤ k ∧ ¬ A k) w w' := by
  have ht := h.tot_le
  have hr := h.fits.rlen
  have hn := h.npos
  obtain ⟨gc, cc, rv, rb, rg, g1, g2, g3, g4⟩ := h
  refine (push_ok g1 hc size idn h1 h2 hl ht (by omega)).mono ?_
  rintro e w' ⟨rfl, rv', rg', hT⟩
  refine ⟨rfl, HasD.turned g2 g3 hA hT ?_ (g4.came hc (size, idn) h1 h2 hl)⟩
  have := tot_upd its c (its c ++ [(size, idn)]) n hc
  simp at this
  omega
theorem hasD_next0 (h : HasD A w0 w t n q st its) (hz : tot its n = 0) : Calls Try.prog 22 #[.pointer (some ⟨t, 0, none⟩)] w fun e w' => e = .returned (.tuple #[.int .i64 0, .int .u64 0, .int .i64 0, .bool false]) ∧ w = w' := by
  have HL := Lib.hid (hasD_len h)
  rw [hz] at HL
  clear h hz
  go_enter Try.func22, Try.ntmps22
  go_wp2_with fail
  go_step3
  go_wp2_with fail
  refine (HL.out).mono ?_
  rintro e w' ⟨rfl, rfl⟩
  go_wp2_with fail
  rw [Exit.noGoto_ret]
  exact bodyPost_ret (v := .tuple #[.int .i64 0, .int .u64 0, .int .i64 0, .bool false]) (by simp [results, Try.results22, go_sem]) rfl ⟨rfl, rfl⟩
theorem hasD_next (h : HasD A w0 w t n q st its) (hA : ∀ k, A k → k < w.heap.size) {c : Nat} {r : List Nat} {cr : Nat → Nat} (hs : spin q (hdOf its) (meas n st + 1) st = ⟨c :: r, true, cr⟩) (hne : st.row ≠ []) {x : Nat × Int} {tl : List (Nat × Int)} (hx : its c = x :: tl) :
    Calls Try.prog 22 #[.pointer (some ⟨t, 0, none⟩)] w fun e w' => e = .returned (.tuple #[.int .i64 c, .int .u64 (x.1 : Nat), .int .i64 x.2, .bool true]) ∧ HasD A w0 w' t n q (left c r cr x.1 tl.isEmpty) (upd its c tl) ∧ Upd (fun k => w0.heap.size ≤ k ∧ ¬ A k) w w' := by
  have ht := h.tot_le
  have hpos : 0 < tot its n := Nat.pos_of_ne_zero (fun e => hne (h.row_nil.2 e))
  obtain ⟨gc, cc, rv, rb, rg, g1, g2, g3, g4⟩ := h
  obtain ⟨hf, _⟩ := spin_ends (meas n st + 1) st g4 (Nat.lt_succ_self _) hne
  rw [hs] at hf
  have hcn := (hf.head rfl).1
  refine (next_some g1 g4 hne hpos ht hs hx).mono ?_
  rintro e w' ⟨rfl, rv', rg', hT⟩
  refine ⟨rfl, HasD.turned g2 g3 hA hT ?_ (hf.left hx)⟩
  have := tot_upd its c tl n hcn
  rw [hx] at this
  simp at this
  omega
end
/-- Turns that have ended, with more fuel. -/
theorem spin_more {q hd : Nat → Nat} {c : Nat} {r : List Nat} {cr : Nat → Nat} (hle : hd c ≤ cr c) : ∀ (f : Nat) (st : Turn) (k : Nat), spin q hd f st = ⟨c :: r, true, cr⟩ → spin q hd (f + k) st = ⟨c :: r, true, cr⟩
  | 0, st, k, h => by
    have h' : st = ⟨c :: r, true, cr⟩ := h
    subst h'
    cases k with
    | zero => rfl
    | succ k => rw [Nat.zero_add, spin_stop (c := c) (r := r) rfl (by unfold startCr; simpa using hle)]; unfold startCr; simp
  | f + 1, st, k, h => by
    rw [show f + 1 + k = (f + k) + 1 by omega]
    cases hr : st.row with
    | nil =>
      have h1 : spin q hd (f + 1) st = st := by rw [spin, hr]
      rw [h1] at h
      rw [h] at hr
      cases hr
    | cons a b =>
      by_cases hs : hd a ≤ startCr q st a a
      · rw [spin_stop hr hs] at h ⊢; exact h
      · rw [spin_on hr hs] at h ⊢; exact spin_more hle f _ k h
theorem spin_meas {n : Nat} {q hd : Nat → Nat} {st : Turn} {c : Nat} {r : List Nat} {cr : Nat → Nat} {f : Nat} (hf : f ≤ meas n st + 1) (h : spin q hd f st = ⟨c :: r, true, cr⟩) (hle : hd c ≤ cr c) : spin q hd (meas n st + 1) st = ⟨c :: r, true, cr⟩ := by
  have := spin_more hle f st (meas n st + 1 - f) h
  rwa [show f + (meas n st + 1 - f) = meas n st + 1 by omega] at this
end Go.Proofs.Ytopibbaopglggaa.Drr
