/- HeapPlays: a heap and the document's list, side by side. -/
import Derived.Test.YtbegljpnjcggnaaHeapAll
import Derived.Test.YtbegljpnjcggnaaSame09
import Derived.Test.YtbegljpnjcggnaaRef09
import Derived.Test.YtbegljpnjcggnaaHeapLives
import Derived.Test.YtbegljpnjcggnaaOpen
import Derived.Deep.DeepCutAuto
import Derived.Deep.CutBlock
namespace Go.Proofs.Ytbegljpnjcggnaa.HeapI
open Go.RowKit Go.Proofs BigFrame Heap
set_option maxHeartbeats 1000000
set_option maxRecDepth 1000000
abbrev TR : TypeId := 60
abbrev TA : TypeId := 39
/-- What a heap is off: the row's block, and perhaps another one. -/
def Off (mv : Value) (x : Option Nat) : Nat → Prop := fun q => mv.ownBlock = some q ∨ x = some q
/-- A heap, and the document's row of items, each off the other; a block that neither touches. -/
structure Pl (x : Option Nat) (cs : Array Value) (w0 w : World) (b room : Nat) (mv : Value) (came : Nat) (l : List En) (r : List (Nat × Int)) : Prop where
  heap : H (Off mv x) w0 w b came room l
  row : PRow TR w0.heap.size w mv r
  upd : Upd Nowhere w0 w
  blk : ∀ q, x = some q → Blk w q cs TA
section
variable {x : Option Nat} {cs : Array Value} {w0 w : World} {b room came : Nat} {mv : Value} {l : List En} {r : List (Nat × Int)}
theorem Pl.old (h : Pl x cs w0 w b room mv came l r) {w' : World} (hu : Upd Nowhere w w') : Pl x cs w0 w' b room mv came l r :=
  ⟨h.heap.old hu, ownsRow_upd h.row hu (fun _ _ h => h), h.upd.trans hu (fun _ _ h => h), fun q hq => (h.blk q hq).kept hu id⟩
theorem Pl.turn (h : Pl x cs w0 w b room mv came l r) {w' : World} {came' : Nat} {l' : List En} (hH : H (Off mv x) w0 w' b came' room l') (hu : Upd (fun k => w0.heap.size ≤ k ∧ ¬ Off mv x k) w w') : Pl x cs w0 w' b room mv came' l' r :=
  ⟨hH, ownsRow_upd h.row hu (fun _ h1 h2 => h2.2 (.inl h1)), h.upd.trans hu (fun _ hk h => absurd hk (Nat.not_lt.2 h.1)), fun q hq => (h.blk q hq).kept hu (fun h2 => h2.2 (.inr hq))⟩
theorem Pl.made (h : Pl x cs w0 w b room mv came l r) {w' : World} {mv' : Value} {r' : List (Nat × Int)} (hm : Ref09.Made w w' mv' r') : Pl x cs w0 w' b room mv' came l r' :=
  ⟨h.heap.re hm.2 (fun k hk => by
    rcases hk with hk | hk
    · exact ⟨.inr (hm.1.lt k hk).1, (hm.1.lt k hk).2⟩
    · exact ⟨.inl (.inr hk), Nat.lt_of_lt_of_le (h.heap.low k (.inr hk)) hm.2.size⟩), ownsRow_base hm.1 h.upd.size, h.upd.trans hm.2 (fun _ _ h => h), fun q hq => (h.blk q hq).kept hm.2 id⟩
theorem Pl.none (h : Pl x cs w0 w b room mv came l r) : Pl none #[] w0 w b room mv came l r :=
  ⟨h.heap.re (Upd.refl _ _) (fun k hk => by
    rcases hk with hk | hk
    · exact ⟨.inl (.inl hk), h.heap.low k (.inl hk)⟩
    · cases hk), h.row, h.upd, fun q hq => by cases hq⟩
theorem Pl.some (h : Pl Option.none #[] w0 w b room mv came l r) (cs : Array Value) : Pl (Option.some w.heap.size) cs w0 (w.alloc (.cells cs TA)) b room mv came l r := by
  have hu := (Upd.refl Nowhere w).alloc (.cells cs TA)
  refine ⟨h.heap.re hu (fun k hk => ?_), ownsRow_upd h.row hu (fun _ _ h => h), h.upd.alloc _, fun q hq => by cases hq; exact Blk.new _ _ _⟩
  rcases hk with hk | hk
  · exact ⟨.inl (.inl hk), Nat.lt_of_lt_of_le (h.heap.low k (.inl hk)) hu.size⟩
  · cases hk; exact ⟨.inr (Nat.le_refl _), by simp⟩
theorem t_push (h : Pl x cs w0 w b room mv came l r) (hl : l.length < room) (hc : came ≤ 1000000) (z : Nat) (y : Int) :
    Calls Try.prog 8 #[.pointer (some ⟨b, 0, none⟩), .int .u64 z, Value.int .i64 y] w fun e w' => e = .returned (.bool true) ∧ Pl x cs w0 w' b room mv (came + 1) (pushL l (z, came, y)) r := by
  refine (h_push h.heap hl (by omega) z y).mono ?_
  rintro e w' ⟨rfl, h1, h2⟩
  exact ⟨rfl, h.turn h1 h2⟩
theorem t_full (h : Pl x cs w0 w b room mv came l r) (hl : l.length = room) (z : Nat) (y : Int) :
    Calls Try.prog 8 #[.pointer (some ⟨b, 0, none⟩), .int .u64 z, Value.int .i64 y] w fun e w' => e = .returned (.bool false) ∧ Pl x cs w0 w' b room mv came l r := by
  refine (h_full h.heap hl z y).mono ?_
  rintro e w' ⟨rfl, h1⟩
  exact ⟨rfl, h.old h1⟩
theorem t_rpush (h : Pl x cs w0 w b room mv came l r) (hr : r.length ≤ 4096) (z : Nat) (y : Int) :
    Calls Try.prog 12 #[mv, .int .u64 z, .int .i64 y] w fun e w' => ∃ mv', e = .returned mv' ∧ Pl x cs w0 w' b room mv' came l (insR (z, y) r) := by
  refine (Ref09.push_any h.row hr z y).mono ?_
  rintro e w' ⟨v', rfl, h1⟩
  exact ⟨v', rfl, h.made h1⟩
theorem t_rrest (h : Pl x cs w0 w b room mv came l r) (hr : r.length ≤ 4096) :
    Calls Try.prog 14 #[mv] w fun e w' => ∃ mv', e = .returned mv' ∧ Pl x cs w0 w' b room mv' came l r.tail := by
  refine (Ref09.rest_any h.row (by omega)).mono ?_
  rintro e w' ⟨v', rfl, h1⟩
  exact ⟨v', rfl, h.made h1⟩
theorem t_rfirst0 (h : Pl x cs w0 w b room mv came l []) :
    Calls Try.prog 13 #[mv] w fun e w' => e = .returned (.tuple #[.int .u64 0, .int .i64 0, .bool false]) ∧ Pl x cs w0 w' b room mv came l [] := by
  refine (Ref09.first_nil h.row).mono ?_
  rintro e w' ⟨rfl, h1⟩
  exact ⟨rfl, h.old h1⟩
theorem t_rfirst {a : Nat × Int} (h : Pl x cs w0 w b room mv came l (a :: r)) :
    Calls Try.prog 13 #[mv] w fun e w' => e = .returned (.tuple #[.int .u64 a.1, .int .i64 a.2, .bool true]) ∧ Pl x cs w0 w' b room mv came l (a :: r) := by
  refine (Ref09.first_some h.row).mono ?_
  rintro e w' ⟨rfl, h1⟩
  exact ⟨rfl, h.old h1⟩
theorem t_pop0 (h : Pl x cs w0 w b room mv came [] r) :
    Calls Try.prog 9 #[.pointer (some ⟨b, 0, none⟩)] w fun e w' => e = .returned (.tuple #[.int .u64 0, Value.int .i64 0, .bool false]) ∧ Pl x cs w0 w' b room mv came [] r := by
  refine (h_pop0 h.heap).mono ?_
  rintro e w' ⟨rfl, h1⟩
  exact ⟨rfl, h.old h1⟩
theorem t_peek0 (h : Pl x cs w0 w b room mv came [] r) :
    Calls Try.prog 15 #[.pointer (some ⟨b, 0, none⟩)] w fun e w' => e = .returned (.tuple #[.int .u64 0, Value.int .i64 0, .bool false]) ∧ Pl x cs w0 w' b room mv came [] r := by
  refine (h_peek0 h.heap).mono ?_
  rintro e w' ⟨rfl, h1⟩
  exact ⟨rfl, h.old h1⟩
theorem t_pop (h : Pl x cs w0 w b room mv came l r) {a : En} {s : List En} (hm : Mt came l (a :: s)) :
    Calls Try.prog 9 #[.pointer (some ⟨b, 0, none⟩)] w fun e w' => e = .returned (.tuple #[.int .u64 a.1, Value.int .i64 a.2.2, .bool true]) ∧ Pl x cs w0 w' b room mv came (popL l) r := by
  refine (h_pop h.heap (hm.head h.heap.heap)).mono ?_
  rintro e w' ⟨rfl, h1, h2⟩
  exact ⟨rfl, h.turn h1 h2⟩
theorem t_peek (h : Pl x cs w0 w b room mv came l r) {a : En} {s : List En} (hm : Mt came l (a :: s)) :
    Calls Try.prog 15 #[.pointer (some ⟨b, 0, none⟩)] w fun e w' => e = .returned (.tuple #[.int .u64 a.1, Value.int .i64 a.2.2, .bool true]) ∧ Pl x cs w0 w' b room mv came l r := by
  refine (h_peek h.heap (hm.head h.heap.heap)).mono ?_
  rintro e w' ⟨rfl, h1⟩
  exact ⟨rfl, h.old h1⟩
theorem t_all (h : Pl x cs w0 w b room mv came l r) {s : List En} (hm : Mt came l s) :
    Calls Try.prog 17 #[.pointer (some ⟨b, 0, none⟩)] w fun e w' => ∃ v', e = .returned v' ∧ PRow TIt w.heap.size w' v' (itms s) ∧ Pl x cs w0 w' b room mv came l r := by
  obtain ⟨v, h1, _⟩ := h.heap.isin
  rcases Nat.eq_zero_or_pos l.length with h0 | h0
  · obtain rfl : l = [] := List.eq_nil_of_length_eq_zero h0
    obtain rfl : s = [] := List.eq_nil_of_length_eq_zero (by rw [hm.len]; rfl)
    refine (all_none h1).mono ?_
    rintro e w' ⟨v', rfl, h2, h3⟩
    exact ⟨v', rfl, h2, h.old h3⟩
  · refine (all_some h1 h0 hm.perm hm.ord).mono ?_
    rintro e w' ⟨v', rfl, h2, h3⟩
    exact ⟨v', rfl, h2, h.old h3⟩
theorem t_same (h : Pl x cs w0 w b room mv came l r) {va : Value} {ba : Nat} (ha : PRow TIt ba w va r) (hr : r.length ≤ 4096) :
    Calls Try.prog 16 #[va, mv] w fun e w' => e = .returned (.bool true) ∧ Pl x cs w0 w' b room mv came l r := by
  refine (Same.same_eq ha h.row (by omega)).mono ?_
  rintro e w' ⟨rfl, h1⟩
  exact ⟨rfl, h.old h1⟩
theorem t_len (h : Pl x cs w0 w b room mv came l r) {s : List En} (hm : Mt came l s) (hr : r = itms s) : Calls Try.prog 10 #[.pointer (some ⟨b, 0, none⟩)] w fun e w' => e = .returned (.int .i64 r.length) ∧ w = w' := by
  refine (h_len h.heap).mono ?_
  rintro e w' ⟨rfl, rfl⟩
  exact ⟨by rw [hr, itms_len, hm.len], rfl⟩
end
/-- What is done, as cells. -/
def act (a : Nat × Nat × Int) : List Value := [.int .u8 a.1, .int .u64 a.2.1, .int .i64 a.2.2]
theorem act_at {l : List (Nat × Nat × Int)} {i : Nat} {a : Nat × Nat × Int} (h : l[i]? = some a) {j : Nat} {v : Value} (hj : (act a)[j]? = some v) : (l.flatMap act)[i * 3 + j]? = some v := by
  induction l generalizing i with
  | nil => simp at h
  | cons b l ih =>
    have hl : (act b).length = 3 := rfl
    rw [List.flatMap_cons]
    cases i with
    | zero =>
      simp only [List.getElem?_cons_zero, Option.some.injEq] at h
      subst h
      have hlt : j < 3 := by
        rcases Nat.lt_or_ge j 3 with h | h
        · exact h
        · rw [List.getElem?_eq_none (by rw [hl]; exact h)] at hj; cases hj
      rw [List.getElem?_append_left (by rw [hl]; omega), Nat.zero_mul, Nat.zero_add]
      exact hj
    | succ i =>
      rw [List.getElem?_append_right (by rw [hl]; omega), hl, show (i + 1) * 3 + j - 3 = i * 3 + j by omega]
      exact ih (by simpa using h)
/-- What a round starts with. -/
def Rd (w wr : World) (b room : Nat) (mv : Value) (k : Nat) : Prop := ∃ (came : Nat) (l s : List En), came ≤ k ∧ l.length ≤ came ∧ Mt came l s ∧ Pl none #[] w wr b room mv came l (itms s)
theorem plays_ok (room : Nat) (h1 : 1 ≤ room) (h2 : room ≤ 4096) (ad : Option Addr) (ca : Nat) (l : List (Nat × Nat × Int)) (hl : l.length ≤ 200) (hb : ∀ (i : Nat) (a : Nat × Nat × Int), l[i]? = some a → a.1 ≤ 255) (w : World)
    (ha0 : ad = none → l.length = 0) (ha : ∀ b, ad = some b → ∀ (j : Nat) (v : Value), (l.flatMap act)[j]? = some v → b.spot = none ∧ w.cell? ⟨b.block, b.off + j, none⟩ = some v) :
    Calls Try.prog 4 #[.int .i64 room, .slice ad l.length ca] w fun e w' => e = .returned (.bool true) ∧ Upd Nowhere w w' := by
  obtain ⟨n, hn⟩ : ∃ n, l.length = n := ⟨_, rfl⟩
  rw [hn] at hl ⊢
  have t0 : decide ((n : Int) > 200) = false := decide_eq_false (by omega)
  have t1 : decide (200 < (n : Int)) = false := decide_eq_false (by omega)
  have Hn := Lib.hid hn
  have Hb := Lib.hid hb
  have Ha0 := Lib.hid ha0
  have Ha := Lib.hid ha
  have Hnew := Lib.hid (h_new room w w (Off (Value.slice none 0 0) none) h1 h2 (Nat.le_refl _) (fun k hk => by rcases hk with hk | hk <;> cases hk))
  have Hmay := fun u => Lib.hid (Ref09.may_any (room : Int) u)
  have hmay : Ref09.mayB (room : Int) = true := by unfold Ref09.mayB; simp; omega
  rw [hmay] at Hmay
  clear hn hb ha0 ha hmay
  go_enter Try.func4, Try.ntmps4
  go_wp2_with fail
  refine (Hnew.out).mono ?_
  rintro e w1 ⟨rfl, hr, hu⟩
  have hst : Rd w w1 w.heap.size room (.slice none 0 0) 0 := ⟨0, [], [], Nat.le_refl _, Nat.le_refl _, Mt.nil, hr, ownsRow_nil _ _ _ _, hu, fun q hq => by cases hq⟩
  clear Hnew hr hu
  go_wp2_with fail
  refine ((Hmay _).out).mono ?_
  rintro e w2 ⟨rfl, rfl⟩
  clear Hmay
  go_wp2_with fail
  go_loopw [8, 59] (fun mv i wr => ∃ (k : Nat), k ≤ n ∧ i = .int .i64 k ∧ Rd w wr w.heap.size room mv k) (fun _ i _ => n - (intOf i).toNat)
  case atStart => exact ⟨0, by omega, rfl, hst⟩
  case round =>
    obtain ⟨k, hk, rfl, came, hp, s, hck, hlc, hmt, hpl⟩ := hrel
    obtain ⟨wB, rfl⟩ : ∃ x, x = wr := ⟨_, rfl⟩
    have HP := Lib.hid hpl
    have HM := Lib.hid hmt
    clear hpl hmt hst
    by_cases hlt : k < n
    · have hI : (k : Int) < n := by omega
      obtain ⟨⟨K, R, X⟩, hx⟩ : ∃ a, l[k]? = some a := ⟨l[k]'(by rw [Hn.out]; exact hlt), by simp⟩
      have hK := Hb.out k _ hx
      simp only at hK
      obtain ⟨ga, oa, rfl⟩ : ∃ ga oa, ad = some ⟨ga, oa, none⟩ := by
        cases ad with
        | none => have := Ha0.out rfl; rw [Hn.out] at this; omega
        | some b =>
          have hs := (Ha.out b rfl _ _ (act_at hx (j := 0) rfl)).1
          obtain ⟨g, o, sp⟩ := b
          simp only at hs
          subst hs
          exact ⟨g, o, rfl⟩
      have r0 : wB.cell? ⟨ga, oa + k * 3, none⟩ = some (.int .u8 K) := cell_old HP.out.upd (Ha.out _ rfl _ _ (act_at hx (j := 0) rfl)).2
      have r1 : wB.cell? ⟨ga, oa + (k * 3 + 1), none⟩ = some (.int .u64 R) := cell_old HP.out.upd (Ha.out _ rfl _ _ (act_at hx (j := 1) rfl)).2
      have r2 : wB.cell? ⟨ga, oa + (k * 3 + 2), none⟩ = some (.int .i64 X) := cell_old HP.out.upd (Ha.out _ rfl _ _ (act_at hx (j := 2) rfl)).2
      have r1' : wB.cell? ⟨ga, oa + k * 3 + 1, none⟩ = some (.int .u64 R) := by rw [Nat.add_assoc]; exact r1
      have r2' : wB.cell? ⟨ga, oa + k * 3 + 2, none⟩ = some (.int .i64 X) := by rw [Nat.add_assoc]; exact r2
      clear hx
      obtain ⟨mad, mca, rfl⟩ := HP.out.row.form
      obtain ⟨m, hm⟩ : ∃ m, (itms s).length = m := ⟨_, rfl⟩
      have hml : hp.length = m := by rw [← hm, itms_len, HM.out.len]
      have hm2 : m ≤ 200 := by omega
      have eK : (K : Int) % 4 = ((K % 4 : Nat) : Int) := rfl
      have hr4 : K % 4 < 4 := Nat.mod_lt _ (by omega)
      generalize K % 4 = r at *
      have hp0 := HP.out
      rw [hm] at hp0 ⊢
      have HA : Hid (Pl (some wB.heap.size) #[.int .u8 K, .int .u64 R, .int .i64 X] w (wB.alloc (.cells #[.int .u8 K, .int .u64 R, .int .i64 X] TA)) w.heap.size room (.slice mad m mca) came hp (itms s)) := Lib.hid (hp0.some _)
      have HML := Lib.hid hml
      have HMS := Lib.hid hm
      have hroom : m ≤ room := by obtain ⟨v, hv, _⟩ := hp0.heap.isin; have := hv.le; omega
      clear HP hp0 hm hml
      go_upto_block 2 with fail
      obtain ⟨wA, hwA⟩ : ∃ wA, wB.alloc (.cells #[.int .u8 K, .int .u64 R, .int .i64 X] TA) = wA := ⟨_, rfl⟩
      rw [hwA] at HA ⊢
      go_cut [8, 11, 12, 13, 14, 15, 16, 17, 59] from 59 to 156 (fun mv _ _ _ _ _ _ _ i wc => i = .int .i64 k ∧ Rd w wc w.heap.size room mv (k + 1))
      case first =>
        as_aux_lemma =>
          obtain ⟨j0, j1, j2, y0, y1, y2⟩ := cells3 (HA.out.blk _ rfl)
          rcases (show r = 0 ∨ r = 1 ∨ r = 2 ∨ r = 3 by omega) with rfl | rfl | rfl | rfl
          · have eK4 : (K : Int) % 4 = 0 := eK
            clear eK
            by_cases hfit : m < room
            · have d1 : decide (m < room) = true := decide_eq_true hfit
              have d2 : decide ((m : Int) < room) = true := decide_eq_true (by omega)
              go_wp2_with fail
              refine (t_push HA.out (by have := HML.out; omega) (by omega) R X).mono ?_
              rintro e w4 ⟨rfl, h4⟩
              have H4 := Lib.hid h4
              obtain ⟨j0, j1, j2, y0, y1, y2⟩ := cells3 (h4.blk _ rfl)
              clear h4
              go_wp2_with fail
              refine (t_rpush H4.out (by have := HMS.out; omega) R X).mono ?_
              rintro e w5 ⟨mv', rfl, h5⟩
              have hm2 := HM.out.push R X
              rw [show insR (R, X) (itms s) = itms (insE (R, came, X) s) by rw [itms_ins]; rfl] at h5
              go_wp2_with fail
              go_meet
              exact ⟨rfl, came + 1, _, _, by omega, by rw [push_length]; omega, hm2, h5.none⟩
            · have d1 : decide (m < room) = false := decide_eq_false hfit
              have d2 : decide ((m : Int) < room) = false := decide_eq_false (by omega)
              go_wp2_with fail
              refine (t_full HA.out (by have := HML.out; omega) R X).mono ?_
              rintro e w4 ⟨rfl, h4⟩
              go_wp2_with fail
              go_meet
              exact ⟨rfl, came, hp, s, by omega, hlc, HM.out, h4.none⟩
          · have eK4 : (K : Int) % 4 = 1 := eK
            clear eK
            by_cases hfit : m < room
            · have d1 : decide (m < room) = true := decide_eq_true hfit
              have d2 : decide ((m : Int) < room) = true := decide_eq_true (by omega)
              go_wp2_with fail
              refine (t_push HA.out (by have := HML.out; omega) (by omega) R X).mono ?_
              rintro e w4 ⟨rfl, h4⟩
              have H4 := Lib.hid h4
              obtain ⟨j0, j1, j2, y0, y1, y2⟩ := cells3 (h4.blk _ rfl)
              clear h4
              go_wp2_with fail
              refine (t_rpush H4.out (by have := HMS.out; omega) R X).mono ?_
              rintro e w5 ⟨mv', rfl, h5⟩
              have hm2 := HM.out.push R X
              rw [show insR (R, X) (itms s) = itms (insE (R, came, X) s) by rw [itms_ins]; rfl] at h5
              go_wp2_with fail
              go_meet
              exact ⟨rfl, came + 1, _, _, by omega, by rw [push_length]; omega, hm2, h5.none⟩
            · have d1 : decide (m < room) = false := decide_eq_false hfit
              have d2 : decide ((m : Int) < room) = false := decide_eq_false (by omega)
              go_wp2_with fail
              refine (t_full HA.out (by have := HML.out; omega) R X).mono ?_
              rintro e w4 ⟨rfl, h4⟩
              go_wp2_with fail
              go_meet
              exact ⟨rfl, came, hp, s, by omega, hlc, HM.out, h4.none⟩
          · have eK4 : (K : Int) % 4 = 2 := eK
            clear eK
            cases s with
            | nil =>
              obtain rfl := HM.out.none
              go_wp2_with fail
              refine (t_pop0 HA.out).mono ?_
              rintro e w4 ⟨rfl, h4⟩
              have H4 := Lib.hid h4
              clear h4
              go_wp2_with fail
              refine (t_rfirst0 H4.out).mono ?_
              rintro e w5 ⟨rfl, h5⟩
              have H5 := Lib.hid h5
              clear h5
              go_wp2_with fail
              refine (t_rrest H5.out (by simp)).mono ?_
              rintro e w6 ⟨mv', rfl, h6⟩
              go_wp2_with fail
              go_meet
              exact ⟨rfl, came, [], [], by omega, Nat.zero_le _, HM.out, h6.none⟩
            | cons a s' =>
              have H0 := HA.out
              have hms : s'.length ≤ 200 := by have := HMS.out; rw [itms_len] at this; simp at this; omega
              obtain ⟨a0, a1, a2⟩ := a
              have e1 : itms ((a0, a1, a2) :: s') = (a0, a2) :: itms s' := rfl
              rw [e1] at H0
              have HA := Lib.hid H0
              have e4 : ((a0 : Int) != a0) = false := by simp
              have e5 : (a2 != a2) = false := by simp
              clear H0 e1
              go_wp2_with fail
              refine (t_pop HA.out HM.out).mono ?_
              rintro e w4 ⟨rfl, h4⟩
              have H4 := Lib.hid h4
              clear h4
              go_wp2_with fail
              refine (t_rfirst H4.out).mono ?_
              rintro e w5 ⟨rfl, h5⟩
              have H5 := Lib.hid h5
              clear h5
              go_wp2_with fail
              refine (t_rrest H5.out (by simp [itms_len]; omega)).mono ?_
              rintro e w6 ⟨mv', rfl, h6⟩
              go_wp2_with fail
              go_meet
              exact ⟨rfl, came, _, s', by omega, by rw [pop_length]; omega, HM.out.pop HA.out.heap.heap, h6.none⟩
          · have eK4 : (K : Int) % 4 = 3 := eK
            clear eK
            go_wp2_with fail
            go_meet
            exact ⟨rfl, came, hp, s, by omega, hlc, HM.out, HA.out.none⟩
      case rest =>
        as_aux_lemma =>
          obtain ⟨rfl, cm, hq, s2, hc2, hl2, hmt2, hpl2⟩ := hcut
          obtain ⟨mad', mca', rfl⟩ := hpl2.row.form
          obtain ⟨m2, hm2⟩ : ∃ m2, (itms s2).length = m2 := ⟨_, rfl⟩
          have HP2 := Lib.hid hpl2
          have HM2 := Lib.hid hmt2
          have hs2 : s2.length = m2 := by rw [← hm2, itms_len]
          have hm20 : m2 ≤ 4096 := by have := hmt2.len; omega
          have HLN := fun u (h : Pl none #[] w u w.heap.size room (.slice mad' (itms s2).length mca') cm hq (itms s2)) => Lib.hid (t_len h hmt2 rfl)
          have hp0 := HP2.out
          rw [hm2] at hp0 HLN ⊢
          have HP2 := Lib.hid hp0
          have HMS2 := Lib.hid hm2
          have e9 : ((m2 : Int) != m2) = false := by simp
          clear hpl2 hmt2 hp0 hm2 HA hwA r0 r1 r2 r1' r2' eK hr4
          cases s2 with
          | nil =>
            obtain rfl := HM2.out.none
            go_wp2_with fail
            refine (t_peek0 HP2.out).mono ?_
            rintro e w4 ⟨rfl, h4⟩
            have H4 := Lib.hid h4
            clear h4
            go_wp2_with fail
            refine (t_rfirst0 H4.out).mono ?_
            rintro e w5 ⟨rfl, h5⟩
            have H5 := Lib.hid h5
            clear h5
            go_wp2_with fail
            refine (HLN _ H5.out).out.mono ?_
            rintro e w6 ⟨rfl, rfl⟩
            go_wp2_with fail
            refine (t_all H5.out HM2.out).mono ?_
            rintro e w7 ⟨v7, rfl, h7, p7⟩
            go_wp2_with fail
            refine (t_same p7 h7 (by simp)).mono ?_
            rintro e w8 ⟨rfl, p8⟩
            go_wp2_with fail
            go_roundw
            case rel => exact ⟨k + 1, by omega, by go_num, cm, [], [], hc2, hl2, HM2.out, p8⟩
            case measure => simp [intOf]; omega
          | cons a s' =>
            obtain ⟨a0, a1, a2⟩ := a
            have e4 : ((a0 : Int) != a0) = false := by simp
            have e5 : (a2 != a2) = false := by simp
            go_wp2_with fail
            refine (t_peek HP2.out HM2.out).mono ?_
            rintro e w4 ⟨rfl, h4⟩
            have H4 := Lib.hid h4
            clear h4
            go_wp2_with fail
            refine (t_rfirst (a := (a0, a2)) (r := itms s') H4.out).mono ?_
            rintro e w5 ⟨rfl, h5⟩
            have H5 := Lib.hid h5
            clear h5
            go_wp2_with fail
            refine (HLN _ H5.out).out.mono ?_
            rintro e w6 ⟨rfl, rfl⟩
            go_wp2_with fail
            refine (t_all H5.out HM2.out).mono ?_
            rintro e w7 ⟨v7, rfl, h7, p7⟩
            go_wp2_with fail
            refine (t_same p7 h7 (by have := HMS2.out; simp only [itms, List.map_cons, List.length_cons] at this ⊢; omega)).mono ?_
            rintro e w8 ⟨rfl, p8⟩
            go_wp2_with fail
            go_roundw
            case rel => exact ⟨k + 1, by omega, by go_num, cm, hq, _, hc2, hl2, HM2.out, p8⟩
            case measure => simp [intOf]; omega
    · obtain rfl : k = n := by omega
      go_wp2_with fail
      refine ((HeapS.lives _)).mono ?_
      rintro e w' ⟨rfl, hu⟩
      go_wp2_with fail
      go_ret
      exact ⟨rfl, HP.out.upd.trans hu (fun _ _ h => h)⟩
end Go.Proofs.Ytbegljpnjcggnaa.HeapI
