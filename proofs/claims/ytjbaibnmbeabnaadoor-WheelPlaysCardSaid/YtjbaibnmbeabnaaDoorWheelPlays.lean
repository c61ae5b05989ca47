/- wheel's law: what is put in, and what is due. -/
import Derived.Test.YtjbaibnmbeabnaaDoorRef28
import Derived.Test.YtjbaibnmbeabnaaDoorWheelLives
import Derived.Test.YtjbaibnmbeabnaaDoorOpen
import Derived.Deep.CutBlock
import Derived.Deep.DeepCutAuto
namespace Go.Proofs.YtjbaibnmbeabnaaDoor.Wheel
open Go.RowKit Go.Proofs BigFrame Heap
set_option maxHeartbeats 4000000
set_option maxRecDepth 1000000
abbrev TA : TypeId := 54
def act (a : Nat × Nat × Int) : List Value := [.int .u8 a.1, .int .u64 a.2.1, .int .i64 a.2.2]
theorem act_at {l : List (Nat × Nat × Int)} {k : Nat} {a : Nat × Nat × Int} (h : l[k]? = some a) {j : Nat} {v : Value} (hv : (act a)[j]? = some v) : (l.flatMap act)[k * 3 + j]? = some v := by
  induction l generalizing k with
  | nil => simp at h
  | cons x r ih =>
    rw [List.flatMap_cons]
    have hx : (act x).length = 3 := rfl
    cases k with
    | zero =>
      simp only [List.getElem?_cons_zero] at h; cases h
      have hj : j < 3 := by
        rcases Nat.lt_or_ge j 3 with h' | h'
        · exact h'
        · rw [List.getElem?_eq_none (by rw [hx]; exact h')] at hv; cases hv
      rw [Nat.zero_mul, Nat.zero_add, List.getElem?_append_left (by rw [hx]; exact hj)]; exact hv
    | succ k =>
      simp only [List.getElem?_cons_succ] at h
      rw [List.getElem?_append_right (by rw [hx]; omega), hx, show (k + 1) * 3 + j - 3 = k * 3 + j by omega]
      exact ih h
/-- Both sides: the wheel, and the list in order. -/
def Ws (X : Nat → Prop) (w wr : World) (b room : Nat) (mv : Value) (now k : Nat) (s : List En) : Prop :=
  ∃ came, came ≤ k ∧ s.length ≤ k ∧ now ≤ 18446744073709551615 ∧ HasW (fun q => X q ∨ mv.ownBlock = some q) w wr b now came room s ∧ PRow TR w.heap.size wr mv (itms s) ∧ Upd Nowhere w wr ∧ ∀ q, X q → q < wr.heap.size
section
variable {X X' : Nat → Prop} {w wr w' : World} {b room now k : Nat} {mv mv' : Value} {s s' : List En}
theorem Ws.low (h : Ws X w wr b room mv now k s) : ∀ q, (X q ∨ mv.ownBlock = some q) → q < wr.heap.size := by
  obtain ⟨came, h1, h2, h3, h4, h5, h6, h7⟩ := h
  exact fun q hq => hq.elim (h7 q) (fun h8 => (h5.lt q h8).2)
theorem Ws.old (h : Ws X w wr b room mv now k s) (hu : Upd Nowhere wr w') : Ws X w w' b room mv now k s := by
  obtain ⟨came, h1, h2, h3, h4, h5, h6, h7⟩ := h
  exact ⟨came, h1, h2, h3, h4.old hu, ownsRow_upd h5 hu (fun _ _ h => h), h6.trans hu (fun _ _ h => h), fun q hq => Nat.lt_of_lt_of_le (h7 q hq) hu.size⟩
theorem Ws.re (h : Ws X w wr b room mv now k s) (hX : ∀ q, X' q → X q) : Ws X' w wr b room mv now k s := by
  obtain ⟨came, h1, h2, h3, h4, h5, h6, h7⟩ := h
  exact ⟨came, h1, h2, h3, h4.re (fun q hq => .inl (hq.imp (hX q) id)), h5, h6, fun q hq => h7 q (hX q hq)⟩
theorem Ws.more (h : Ws X w wr b room mv now k s) {m : Nat} (hm : k ≤ m) : Ws X w wr b room mv now m s := by
  obtain ⟨came, h1, h2, h⟩ := h
  exact ⟨came, by omega, by omega, h⟩
/-- One block more, off both. -/
theorem Ws.some (h : Ws NoB w wr b room mv now k s) (o : Obj) : Ws (fun q => q = wr.heap.size) w (wr.alloc o) b room mv now k s := by
  have hu := (Upd.refl Nowhere wr).alloc o
  obtain ⟨came, h1, h2, h3, h4, h5, h6, h7⟩ := h
  refine ⟨came, h1, h2, h3, ((h4.re (A' := fun q => q = wr.heap.size ∨ mv.ownBlock = Option.some q) (fun q hq => ?_)).old hu), ownsRow_upd h5 hu (fun _ _ h => h), h6.trans hu (fun _ _ h => h), fun q hq => by rw [hq]; simp⟩
  rcases hq with rfl | hq
  · exact .inr (Nat.le_refl _)
  · exact .inl (.inr hq)
/-- A new list. -/
theorem Ws.list (h : Ws X w wr b room mv now k s) (hu : Upd Nowhere wr w') {r : List (Nat × Int)} (hr : PRow TR w.heap.size w' mv' r) (hn : ∀ q, mv'.ownBlock = Option.some q → mv.ownBlock = Option.some q ∨ wr.heap.size ≤ q) :
    ∃ came, came ≤ k ∧ s.length ≤ k ∧ now ≤ 18446744073709551615 ∧ HasW (fun q => X q ∨ mv'.ownBlock = Option.some q) w w' b now came room s ∧ Upd Nowhere w w' ∧ (∀ q, X q → q < w'.heap.size) ∧ PRow TR w.heap.size w' mv' r := by
  obtain ⟨came, h1, h2, h3, h4, h5, h6, h7⟩ := h
  refine ⟨came, h1, h2, h3, (h4.re (A' := fun q => X q ∨ mv'.ownBlock = Option.some q) (fun q hq => ?_)).old hu, h6.trans hu (fun _ _ h => h), fun q hq => Nat.lt_of_lt_of_le (h7 q hq) hu.size, hr⟩
  rcases hq with hq | hq
  · exact .inl (.inl hq)
  · exact (hn q hq).imp .inr id
theorem ws_full (h : Ws X w wr b room mv now k s) (hl : room ≤ s.length) (t : Nat) (x : Int) :
    Calls Tryd.prog 21 #[.pointer (some ⟨b, 0, none⟩), .int .u64 t, .int .i64 x] wr fun e w' => e = .returned (.bool false) ∧ Ws X w w' b room mv now k s ∧ Upd Nowhere wr w' := by
  obtain ⟨came, h1, h2, h3, h4, h5⟩ := id h
  refine (add_full h4 hl t x).mono ?_
  rintro e w' ⟨rfl, hu⟩
  exact ⟨rfl, h.old hu, hu⟩
theorem ws_add (h : Ws X w wr b room mv now k s) (hk : k ≤ 1000) (hl : s.length < room) (t : Nat) (ht : t ≤ 18446744073709551615) (x : Int) :
    Calls Tryd.prog 21 #[.pointer (some ⟨b, 0, none⟩), .int .u64 t, .int .i64 x] wr fun e w' => e = .returned (.bool true) ∧ Upd (Free X w) wr w' ∧ PRow TR w.heap.size w' mv (itms s) ∧ ∃ came, ∀ (w2 : World) (mv' : Value), Upd Nowhere w' w2 → PRow TR w.heap.size w2 mv' (insR (t, x) (itms s)) → (∀ q, mv'.ownBlock = Option.some q → w'.heap.size ≤ q) → Ws X w w2 b room mv' now (k + 1) (insE (t, came, x) s) := by
  obtain ⟨came, h1, h2, h3, h4, h5, h6, h7⟩ := id h
  refine (add_room h4 hl h.low t ht x (by omega)).mono ?_
  rintro e w' ⟨rfl, hh, hu⟩
  refine ⟨rfl, hu.mono (fun q _ hq => ⟨hq.1, fun h9 => hq.2 (.inl h9)⟩), ownsRow_upd h5 hu (fun q hq h9 => h9.2 (.inr hq)), came, fun w2 mv' hu2 hr hn => ?_⟩
  refine ⟨came + 1, by omega, by rw [(insE_perm _ _).length_eq, List.length_cons]; omega, h3, (hh.re (A' := fun q => X q ∨ mv'.ownBlock = Option.some q) (fun q hq => ?_)).old hu2, ?_, (nowhere_step h6 hu).trans hu2 (fun _ _ h => h), fun q hq => Nat.lt_of_lt_of_le (Nat.lt_of_lt_of_le (h7 q hq) hu.size) hu2.size⟩
  · rcases hq with hq | hq
    · exact .inl (.inl hq)
    · exact .inr (hn q hq)
  · rw [itms_ins]; exact hr
end
theorem itms_due (now : Nat) : ∀ {s : List En}, s.Pairwise (fun a b => ahd a b = true) → (itms s).takeWhile (fun e => decide (e.1 ≤ now)) = itms (dueOf now s) ∧ (itms s).dropWhile (fun e => decide (e.1 ≤ now)) = itms (leftOf now s)
  | [], _ => ⟨rfl, rfl⟩
  | a :: r, ho => by
    have ho' := List.pairwise_cons.1 ho
    have e0 : itms (a :: r) = itm a :: itms r := rfl
    by_cases h : a.1 ≤ now
    · obtain ⟨i1, i2⟩ := itms_due now ho'.2
      have e1 : dueOf now (a :: r) = a :: dueOf now r := List.filter_cons_of_pos (by simpa using h)
      have e2 : leftOf now (a :: r) = leftOf now r := List.filter_cons_of_neg (by simp; omega)
      have e3 : decide ((itm a).1 ≤ now) = true := decide_eq_true h
      rw [e0, e1, e2, List.takeWhile_cons_of_pos (p := fun e : Nat × Int => decide (e.1 ≤ now)) e3, List.dropWhile_cons_of_pos (p := fun e : Nat × Int => decide (e.1 ≤ now)) e3, i1, i2]
      exact ⟨rfl, rfl⟩
    · have e3 : ¬ decide ((itm a).1 ≤ now) = true := fun h9 => h (of_decide_eq_true h9)
      have l1 : leftOf now (a :: r) = a :: r := List.filter_eq_self.2 fun e he => by have := head_le ho e he; simp; omega
      have l2 : dueOf now (a :: r) = [] := List.filter_eq_nil_iff.2 fun e he => by have := head_le ho e he; simp; omega
      rw [l1, l2, e0, List.takeWhile_cons_of_neg (p := fun e : Nat × Int => decide (e.1 ≤ now)) e3, List.dropWhile_cons_of_neg (p := fun e : Nat × Int => decide (e.1 ≤ now)) e3]
      exact ⟨rfl, rfl⟩
/-- What is handed out, as numbers. -/
def nums (l : List En) : List Int := l.map fun e => e.2.2
theorem itms_nums (l : List En) : ((itms l).map fun e => Value.int .i64 e.2) = Ref06.ints (nums l) := by unfold itms Ref06.ints nums; rw [List.map_map, List.map_map]; rfl
/-- Between the two sides. -/
def Wd (w wr : World) (b room now nw k : Nat) (ov lv : Value) (s : List En) : Prop :=
  ∃ came N, came ≤ k ∧ s.length ≤ k ∧ HasW (fun q => ov.ownBlock = Option.some q ∨ lv.ownBlock = Option.some q) w wr b now came room s ∧ wr.ownsRow w.heap.size TI 1 ov N (Ref06.ints (nums (dueOf nw s))) ∧ PRow TR w.heap.size wr lv (itms (leftOf nw s)) ∧ Upd Nowhere w wr
theorem ws_rdue {X : Nat → Prop} {w wr : World} {b room now k nw : Nat} {mv : Value} {s : List En} (h : Ws X w wr b room mv now k s) (hk : k ≤ 1000) :
    Calls Tryd.prog 27 #[mv, .int .u64 nw] wr fun e w' => ∃ ov lv, e = .returned (.tuple #[ov, lv]) ∧ Wd w w' b room now nw k ov lv s := by
  obtain ⟨came, h1, h2, h3, h4, h5, h6, h7⟩ := h
  obtain ⟨i1, i2⟩ := itms_due nw h4.old_all.2.1
  refine (rdue_any h5 (by rw [itms_len]; omega) h6.size nw).mono ?_
  rintro e w' ⟨ov, lv, rfl, j1, j2, j3, j4⟩
  rw [i1, itms_nums] at j1
  rw [i2] at j2
  refine ⟨ov, lv, rfl, came, _, h1, h2, (h4.re (fun q hq => ?_)).old j4, ownsRow_base j1 h6.size, j2, h6.trans j4 (fun _ _ h => h)⟩
  rcases hq with hq | hq
  · exact .inr (j1.lt q hq).1
  · exact (j3 q hq).imp .inr id
theorem ws_wdue {w wr : World} {b room now k nw to' : Nat} {ov lv : Value} {s : List En} (h : Wd w wr b room now nw k ov lv s) (hT : Tab wr) (hG : Tryd.tz64_ren.g 1 < w.heap.size) (hto : to' ≤ 18446744073709551615) (hnw : max now to' = nw) :
    Calls Tryd.prog 22 #[.pointer (some ⟨b, 0, none⟩), .int .u64 to'] wr fun e w' => ∃ v, e = .returned v ∧ RowAt w' v (Ref06.ints (nums (dueOf nw s))) ∧ RowAt w' ov (Ref06.ints (nums (dueOf nw s))) ∧ Ws NoB w w' b room lv nw (k + 1) (leftOf nw s) := by
  obtain ⟨came, N, h1, h2, h4, h5, h6, h7⟩ := h
  refine (due_any h4 (fun q hq => hq.elim (fun h9 => (h5.lt q h9).2) (fun h9 => (h6.lt q h9).2)) hT hG to' hto).mono ?_
  rintro e w' ⟨v, rfl, j1, j2, j3⟩
  rw [hnw] at j1 j2
  refine ⟨v, rfl, out_row j1, ownsRow_rowAt (ownsRow_upd h5 j3 (fun q hq h9 => h9.2 (.inl hq))), came, by omega, ?_, ?_, j2.re (fun q hq => hq.elim (fun h9 => h9.elim) (fun h9 => .inl (.inr h9))), ownsRow_upd h6 j3 (fun q hq h9 => h9.2 (.inr hq)), nowhere_step h7 j3, fun _ h9 => h9.elim⟩
  · have := due_left nw s; omega
  · have := h4.fits.2.2; omega
end Go.Proofs.YtjbaibnmbeabnaaDoor.Wheel
