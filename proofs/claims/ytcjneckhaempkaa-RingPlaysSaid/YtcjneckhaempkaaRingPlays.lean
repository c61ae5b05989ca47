/- RingPlays. -/
import Derived.Test.YtcjneckhaempkaaRingOrder
import Derived.Test.YtcjneckhaempkaaRef06b
import Derived.Test.YtcjneckhaempkaaCells
import Derived.Deep.DeepCutAuto
import Derived.Deep.CutBlock
import Derived.Deep.RegionHeld3
import Derived.Deep.RegionWith
namespace Go.Proofs.Ytcjneckhaempkaa.RingOrder
open Go.RowKit Go.Proofs BigFrame
open Ref06 (ints ints_len ints_at NewRow)
open RingI (TR TE)
set_option maxHeartbeats 2000000
set_option maxRecDepth 100000
section
variable {B : Nat} {w wr w1 : World} {b : Nat} {g : Option Nat} {room : Nat} {pv gv : Value} {P G R : List Int}
/-- The first row is a new one. -/
theorem St.row (h : St B w wr b g room pv gv P G R) {v : Value} {l : List Int} (ho : w1.ownsRow wr.heap.size TE 1 v l.length (ints l)) (hu : Upd Nowhere wr w1) : St B w w1 b g room v gv l G R := by
  have h2 := h.old hu
  refine ⟨h2.upd, h2.low, h2.ring, fun k hk => ⟨(h2.from_ k hk).1, fun e => ?_, (h2.from_ k hk).2.2⟩, ownsRow_base ho h.base, h2.got, fun k hk hg => ?_⟩
  · exact absurd (ho.lt k e).1 (Nat.not_le.2 (h.ring.lts hk))
  · exact absurd (ho.lt k hk).1 (Nat.not_le.2 (h.got.lt k hg).2)
/-- The first row is nil. -/
theorem St.nil_ (h : St B w wr b g room pv gv P G R) : St B w wr b g room (.slice none 0 0) gv [] G R :=
  ⟨h.upd, h.low, h.ring, fun k hk => ⟨(h.from_ k hk).1, (fun e => by cases e), (h.from_ k hk).2.2⟩, ownsRow_nil _ _ _ _, h.got, fun k hk => by cases hk⟩
end
theorem St.at_ {B : Nat} {w wr : World} {b : Nat} {g : Option Nat} {room : Nat} {gv : Value} {P G R : List Int} {mad : Option Addr} {m mca : Nat} (h : St B w wr b g room (.slice mad m mca) gv P G R) {i : Nat} {x : Int} (hx : P[i]? = some x) :
    ∃ gm om, mad = some ⟨gm, om, none⟩ ∧ wr.cell? ⟨gm, om + i, none⟩ = some (.int .i64 x) := by
  obtain ⟨ad, ca, he, h0, h1⟩ := ownsRow_rowAt h.put
  cases he
  exact row_at (fun h => ⟨(h0 h).1, trivial⟩) h1 (ints_at hx)
section
variable {B : Nat} {w wd w1 : World} {b : Nat} {g : Option Nat} {room : Nat} {mv gv v : Value} {ys : List Int} {a : Addr}
theorem t_len {m : Nat} (hm : ys.length = m) (h : St B w wd b g room mv gv ys [] ys) (hS : Upd Nowhere wd w1 ∧ w1.cell? a = some v) : Calls Try.prog 23 #[.pointer (some ⟨b, 0, none⟩)] w1 fun e w2 => e = .returned (.int .i64 m) ∧ (Upd Nowhere wd w2 ∧ w2.cell? a = some v) := by
  obtain ⟨fr, len, hR⟩ := (h.old hS.1).ring
  have h2 := hR.c2
  rw [ints_len, hm] at h2
  exact (RingI.len_any b _ w1 h2).mono fun e w2 ⟨h1, h3⟩ => ⟨h1, by rw [← h3]; exact hS⟩
theorem t_room {m : Nat} (hm : ys.length = m) (h : St B w wd b g room mv gv ys [] ys) (hS : Upd Nowhere wd w1 ∧ w1.cell? a = some v) : Calls Try.prog 24 #[.pointer (some ⟨b, 0, none⟩)] w1 fun e w2 => e = .returned (.int .i64 ((room : Int) - m)) ∧ (Upd Nowhere wd w2 ∧ w2.cell? a = some v) := by
  obtain ⟨fr, len, hR⟩ := (h.old hS.1).ring
  have h2 := hR.c2
  have h3 := hR.c3
  have l1 := hR.le1
  have l2 := hR.le2
  have l3 := hR.le3
  rw [ints_len, hm] at h2 l1
  refine (RingI.room_any b _ _ w1 h2 h3 (by omega) (by omega) (by omega)).mono ?_
  rintro e w2 ⟨h1, q, rfl⟩
  exact ⟨h1, hS.1.drewN q, hS.2⟩
theorem t_all (h : St B w wd b g room mv gv ys [] ys) (hS : Upd Nowhere wd w1 ∧ w1.cell? a = some v) : Calls Try.prog 11 #[.pointer (some ⟨b, 0, none⟩)] w1 fun e w2 => ∃ r, e = .returned r ∧ RowAt w2 r (ints ys) ∧ Upd Nowhere w1 w2 ∧ (Upd Nowhere wd w2 ∧ w2.cell? a = some v) := by
  obtain ⟨fr, len, hR⟩ := (h.old hS.1).ring
  refine (RingI.all_any w1 b g room fr len ys hR).mono ?_
  rintro e w2 ⟨⟨r, rfl, ho⟩, hu⟩
  exact ⟨r, rfl, ownsRow_rowAt ho, hu, hS.1.trans hu (fun _ _ h => h), cell_old hu hS.2⟩
theorem t_last (h : St B w wd b g room mv gv ys [] ys) {N : Int} (h1 : -9223372036854775808 ≤ N) (h2 : N ≤ 9223372036854775807) (hS : Upd Nowhere wd w1 ∧ w1.cell? a = some v) : Calls Try.prog 25 #[.pointer (some ⟨b, 0, none⟩), .int .i64 N] w1 fun e w2 => ∃ r, e = .returned r ∧ RowAt w2 r (ints (RingI.lastOf ys N)) ∧ Upd Nowhere w1 w2 ∧ (Upd Nowhere wd w2 ∧ w2.cell? a = some v) := by
  obtain ⟨fr, len, hR⟩ := (h.old hS.1).ring
  refine (RingI.last_any w1 b g room fr len ys N h1 h2 hR).mono ?_
  rintro e w2 ⟨⟨r, rfl, ho⟩, hu⟩
  exact ⟨r, rfl, ownsRow_rowAt ho, hu, hS.1.trans hu (fun _ _ h => h), cell_old hu hS.2⟩
theorem t_ref (h : St B w wd b g room mv gv ys [] ys) (hl : ys.length ≤ 1000000) {N : Int} (hS : Upd Nowhere wd w1 ∧ w1.cell? a = some v) : Calls Try.prog 26 #[mv, .int .i64 N] w1 fun e w2 => ∃ r, e = .returned r ∧ RowAt w2 r (ints (RingI.lastOf ys N)) ∧ Upd Nowhere w1 w2 ∧ (Upd Nowhere wd w2 ∧ w2.cell? a = some v) := by
  refine (Ref06.last_ref w1 mv ys N (ownsRow_rowAt (h.old hS.1).put) hl).mono ?_
  rintro e w2 ⟨⟨r, rfl, ho⟩, hu⟩
  exact ⟨r, rfl, ownsRow_rowAt ho, hu, hS.1.trans hu (fun _ _ h => h), cell_old hu hS.2⟩
theorem t_same {va vb : Value} {la : List Int} (hS : Upd Nowhere wd w1 ∧ w1.cell? a = some v) (ha : RowAt w1 va (ints la)) (hb : RowAt w1 vb (ints la)) (hl : la.length ≤ 1000000) : Calls Try.prog 12 #[va, vb] w1 fun e w2 => e = .returned (.bool true) ∧ (Upd Nowhere wd w2 ∧ w2.cell? a = some v) := by
  refine (Ref06.same_any w1 va vb la la ha hb hl hl).mono ?_
  rintro e w2 ⟨h1, q, rfl⟩
  exact ⟨by simpa using h1, hS.1.drewN q, hS.2⟩
theorem last_le {ys : List Int} {N : Int} {m : Nat} (h : ys.length ≤ m) : (RingI.lastOf ys N).length ≤ m := by unfold RingI.lastOf; rw [List.length_drop]; omega
theorem at_in_ {ys : List Int} {n : Nat} {z : Int} (h : ys[n]? = some z) : RingI.atOf (ints ys) (n : Int) = .tuple #[.int .i64 z, .bool true] := by
  have h' := ints_at h
  unfold RingI.atOf
  rw [if_pos (by omega), Int.toNat_natCast, h']
theorem at_out_ {ys : List Int} {N : Int} (h : ¬ (0 ≤ N ∧ N < ys.length)) : RingI.atOf (ints ys) N = .tuple #[.int .i64 0, .bool false] := by
  unfold RingI.atOf
  by_cases h0 : 0 ≤ N
  · rw [if_pos h0, List.getElem?_eq_none (by rw [ints_len]; omega)]
  · rw [if_neg h0]
theorem head_form {ys : List Int} {m : Nat} {b : Bool} (hm : ys.length = m) (hb : decide (0 < m) = b) : ∃ h0, RingI.atOf (ints ys) 0 = .tuple #[.int .i64 h0, .bool b] ∧ (b = true → ys[0]? = some h0) := by
  cases b with
  | false => exact ⟨0, at_out_ (by have := of_decide_eq_false hb; omega), fun h => by cases h⟩
  | true =>
    have hlt := of_decide_eq_true hb
    have hz : ys[0]? = some (ys[0]'(by omega)) := by simp
    exact ⟨_, at_in_ (n := 0) hz, fun _ => hz⟩
theorem at_form {ys : List Int} {m : Nat} {N : Int} {b : Bool} (hm : ys.length = m) (hb : decide (0 ≤ N ∧ N < m) = b) : ∃ z0, RingI.atOf (ints ys) N = .tuple #[.int .i64 z0, .bool b] ∧ (b = true → ∃ n : Nat, N = n ∧ ys[n]? = some z0) ∧ (b = false → z0 = 0) := by
  cases b with
  | false => exact ⟨0, at_out_ (by rw [hm]; exact of_decide_eq_false hb), (fun h => by cases h), fun _ => rfl⟩
  | true =>
    have hlt := of_decide_eq_true hb
    obtain ⟨n, rfl⟩ : ∃ n : Nat, N = n := ⟨N.toNat, by omega⟩
    have hz : ys[n]? = some (ys[n]'(by omega)) := by simp
    exact ⟨_, at_in_ hz, fun _ => ⟨n, rfl, hz⟩, fun h => by cases h⟩
end
/-- What a round starts with: a ring, and a row, of the same numbers. -/
def Pl (w wr : World) (room : Nat) (mv : Value) (k : Nat) : Prop := ∃ (g : Option Nat) (xs : List Int), xs.length ≤ k ∧ St w.heap.size w wr w.heap.size g room mv (.slice none 0 0) xs [] xs
/-- What is done, as cells. -/
def act (a : Nat × Int) : List Value := [.int .u8 a.1, .int .i64 a.2]
theorem act_at {l : List (Nat × Int)} {i : Nat} {a : Nat × Int} (h : l[i]? = some a) {j : Nat} {v : Value} (hj : (act a)[j]? = some v) : (l.flatMap act)[i * 2 + j]? = some v := by
  induction l generalizing i with
  | nil => simp at h
  | cons b l ih =>
    have hl : (act b).length = 2 := rfl
    rw [List.flatMap_cons]
    cases i with
    | zero =>
      simp only [List.getElem?_cons_zero, Option.some.injEq] at h
      subst h
      have hlt : j < 2 := by
        rcases Nat.lt_or_ge j 2 with h | h
        · exact h
        · rw [List.getElem?_eq_none (by rw [hl]; exact h)] at hj; cases hj
      rw [List.getElem?_append_left (by rw [hl]; omega), Nat.zero_mul, Nat.zero_add]
      exact hj
    | succ i =>
      rw [List.getElem?_append_right (by rw [hl]; omega), hl, show (i + 1) * 2 + j - 2 = i * 2 + j by omega]
      exact ih (by simpa using h)
theorem plays_ok (room : Nat) (h1 : 1 ≤ room) (h2 : room ≤ 65536) (ad : Option Addr) (ca : Nat) (l : List (Nat × Int)) (hl : l.length ≤ 200) (hb : ∀ (i : Nat) (a : Nat × Int), l[i]? = some a → a.1 ≤ 255 ∧ -9223372036854775808 ≤ a.2 ∧ a.2 ≤ 9223372036854775807) (w : World)
    (ha0 : ad = none → l.length = 0) (ha : ∀ b, ad = some b → ∀ (j : Nat) (v : Value), (l.flatMap act)[j]? = some v → b.spot = none ∧ w.cell? ⟨b.block, b.off + j, none⟩ = some v) :
    Calls Try.prog 5 #[.int .i64 room, .slice ad l.length ca] w fun e w' => e = .returned (.bool true) ∧ Upd Nowhere w w' := by
  obtain ⟨n, hn⟩ : ∃ n, l.length = n := ⟨_, rfl⟩
  rw [hn] at hl ⊢
  have t0 : decide ((n : Int) > 200) = false := decide_eq_false (by omega)
  have t1 : decide (200 < (n : Int)) = false := decide_eq_false (by omega)
  have t2 : decide ((room : Int) ≥ 1) = true := decide_eq_true (by omega)
  have t3 : decide ((room : Int) ≤ 65536) = true := decide_eq_true (by omega)
  have t4 : decide (1 ≤ (room : Int)) = true := decide_eq_true (by omega)
  have Hn := Lib.hid hn
  have Hb := Lib.hid hb
  have Ha0 := Lib.hid ha0
  have Ha := Lib.hid ha
  have Hnew := Lib.hid (RingI.new_ok w room h1 h2)
  clear hn hb ha0 ha
  go_enter Try.func5, Try.ntmps5
  go_wp2_with (go_at_call 8; refine Hnew.out.mono ?_; rintro e w1 ⟨rfl, hr, hu⟩; have H1 := Lib.hid hr; have U1 := Lib.hid hu; clear hr hu)
  have hst : Pl w w1 room (.slice none 0 0) 0 := by
    refine ⟨none, [], Nat.le_refl _, U1.out.any _, Nat.le_refl _, H1.out, fun k hk => ⟨?_, by simp [Value.ownBlock], by simp [Value.ownBlock]⟩, ownsRow_nil _ _ _ _, ownsRow_nil _ _ _ _, fun k hk => by cases hk⟩
    rcases hk with rfl | hk
    · exact Nat.le_refl _
    · cases hk
  clear Hnew
  go_loopw [8, 58] (fun mv i wr => ∃ (k : Nat), k ≤ n ∧ i = .int .i64 k ∧ Pl w wr room mv k) (fun _ i _ => n - (intOf i).toNat)
  case atStart => exact ⟨0, by omega, rfl, hst⟩
  case round =>
    obtain ⟨k, hk, rfl, g, xs, hxk, hst⟩ := hrel
    have HS := Lib.hid hst
    clear hst H1 U1
    by_cases hlt : k < n
    · have hI : (k : Int) < n := by omega
      obtain ⟨⟨K, N⟩, hx⟩ : ∃ a, l[k]? = some a := ⟨l[k]'(by rw [Hn.out]; exact hlt), by simp⟩
      obtain ⟨hK, hN1, hN2⟩ := Hb.out k _ hx
      simp only at hK hN1 hN2
      obtain ⟨ga, oa, rfl⟩ : ∃ ga oa, ad = some ⟨ga, oa, none⟩ := by
        cases ad with
        | none => have := Ha0.out rfl; rw [Hn.out] at this; omega
        | some b =>
          have hs := (Ha.out b rfl _ _ (act_at hx (j := 0) rfl)).1
          obtain ⟨g, o, sp⟩ := b
          simp only at hs
          subst hs
          exact ⟨g, o, rfl⟩
      have r0 : wr.cell? ⟨ga, oa + k * 2, none⟩ = some (.int .u8 K) := cell_keep HS.out.upd rfl (Ha.out _ rfl _ _ (act_at hx (j := 0) rfl)).2
      have r1 : wr.cell? ⟨ga, oa + (k * 2 + 1), none⟩ = some (.int .i64 N) := cell_keep HS.out.upd rfl (Ha.out _ rfl _ _ (act_at hx (j := 1) rfl)).2
      have r2 : wr.cell? ⟨ga, oa + k * 2 + 1, none⟩ = some (.int .i64 N) := by rw [Nat.add_assoc]; exact r1
      clear hx
      obtain ⟨mad, mca, rfl, hm0, hm1⟩ := ownsRow_rowAt HS.out.put
      have hs' := HS.out
      rw [ints_len] at hs' ⊢
      have HS := Lib.hid hs'
      clear hs'
      have hxk' : xs.length ≤ 200 := by omega
      have eK : (K : Int) % 8 = ((K % 8 : Nat) : Int) := rfl
      have hr8 : K % 8 < 8 := Nat.mod_lt _ (by omega)
      generalize K % 8 = r at *
      have HA : Hid (St w.heap.size w (wr.alloc (.cells #[.int .u8 K, .int .i64 N] 48)) w.heap.size g room (.slice mad xs.length mca) (.slice none 0 0) xs [] xs) := Lib.hid (HS.out.alloc _)
      have hBa : Blk (wr.alloc (.cells #[.int .u8 K, .int .i64 N] 48)) wr.heap.size #[.int .u8 K, .int .i64 N] 48 := Blk.new _ _ _
      have hra : ∀ q, RingOf w.heap.size g q → q ≠ wr.heap.size := fun q hq => Nat.ne_of_lt (HS.out.ring.lts hq)
      go_upto_block 2 with fail
      obtain ⟨wA, hwA⟩ : ∃ wA, wr.alloc (.cells #[.int .u8 K, .int .i64 N] 48) = wA := ⟨_, rfl⟩
      rw [hwA] at HA hBa ⊢
      go_cut [8, 11, 12, 13, 58] from 58 to 217 (fun mv _ _ _ i wc => i = .int .i64 k ∧ Blk wc wr.heap.size #[.int .u8 K, .int .i64 N] 48 ∧ Pl w wc room mv (k + 1))
      case first =>
        as_aux_lemma =>
          obtain ⟨fr, len, hR⟩ := HA.out.ring
          rcases (show r = 4 ∨ r = 5 ∨ r = 6 ∨ r = 7 ∨ r < 4 by omega) with rfl | rfl | rfl | rfl | hr4
          · have eK4 : (K : Int) % 8 = 4 := eK
            clear eK
            cases xs with
            | nil =>
              go_wp2_with fail
              refine (RingI.take_empty _ _ _ _ _ _ hR).mono ?_
              rintro e w4 ⟨rfl, q4, rfl⟩
              have HA4 := Lib.hid (HA.out.drewN q4)
              go_wp2_with (go_at_call 18; refine (Ref06.rest_any _ _ [] 1 (ownsRow_rowAt HA4.out.put) (by simp) (by omega)).mono ?_; rintro e w5 ⟨⟨v5, rfl, ho⟩, hu5⟩)
              go_meet
              exact ⟨rfl, (hBa.drewN q4).kept hu5 id, g, [], by simp, HA4.out.row ho hu5⟩
            | cons x t =>
              go_wp2_with fail
              refine (RingI.take_some _ _ _ _ _ _ x t hR).mono ?_
              rintro e w4 ⟨rfl, ht⟩
              obtain ⟨g4, hs4⟩ := HA.out.turn ht
              obtain ⟨_, _, _, hu4⟩ := ht
              have hB4 := hBa.kept hu4 (fun hq => hra _ hq rfl)
              obtain ⟨gm, om, rfl, hm⟩ := hs4.at_ (i := 0) (x := x) rfl
              rw [Nat.add_zero] at hm
              have HA4 := Lib.hid hs4
              have hlen : (x :: t).length = t.length + 1 := rfl
              rw [hlen]
              clear hs4 hu4
              go_wp2_with (go_at_call 18; refine (Ref06.rest_any _ _ (x :: t) 1 (ownsRow_rowAt HA4.out.put) (by omega) (by omega)).mono ?_; rintro e w5 ⟨⟨v5, rfl, ho⟩, hu5⟩)
              go_meet
              exact ⟨rfl, hB4.kept hu5 id, g4, t, by omega, HA4.out.row ho hu5⟩
          · have eK4 : (K : Int) % 8 = 5 := eK
            clear eK
            cases xs with
            | nil =>
              go_wp2_with fail
              refine (RingI.take_empty _ _ _ _ _ _ hR).mono ?_
              rintro e w4 ⟨rfl, q4, rfl⟩
              have HA4 := Lib.hid (HA.out.drewN q4)
              go_wp2_with (go_at_call 18; refine (Ref06.rest_any _ _ [] 1 (ownsRow_rowAt HA4.out.put) (by simp) (by omega)).mono ?_; rintro e w5 ⟨⟨v5, rfl, ho⟩, hu5⟩)
              go_meet
              exact ⟨rfl, (hBa.drewN q4).kept hu5 id, g, [], by simp, HA4.out.row ho hu5⟩
            | cons x t =>
              go_wp2_with fail
              refine (RingI.take_some _ _ _ _ _ _ x t hR).mono ?_
              rintro e w4 ⟨rfl, ht⟩
              obtain ⟨g4, hs4⟩ := HA.out.turn ht
              obtain ⟨_, _, _, hu4⟩ := ht
              have hB4 := hBa.kept hu4 (fun hq => hra _ hq rfl)
              obtain ⟨gm, om, rfl, hm⟩ := hs4.at_ (i := 0) (x := x) rfl
              rw [Nat.add_zero] at hm
              have HA4 := Lib.hid hs4
              have hlen : (x :: t).length = t.length + 1 := rfl
              rw [hlen]
              clear hs4 hu4
              go_wp2_with (go_at_call 18; refine (Ref06.rest_any _ _ (x :: t) 1 (ownsRow_rowAt HA4.out.put) (by omega) (by omega)).mono ?_; rintro e w5 ⟨⟨v5, rfl, ho⟩, hu5⟩)
              go_meet
              exact ⟨rfl, hB4.kept hu5 id, g4, t, by omega, HA4.out.row ho hu5⟩
          · have eK4 : (K : Int) % 8 = 6 := eK
            clear eK
            go_wp2_with fail
            refine (RingI.clear_any _ _ _ _ _ _ xs hR).mono ?_
            rintro e w4 ⟨rfl, ht⟩
            obtain ⟨g4, hs4⟩ := HA.out.turn (R' := []) ht
            obtain ⟨_, _, _, hu4⟩ := ht
            have hB4 := hBa.kept hu4 (fun hq => hra _ hq rfl)
            have HA4 := Lib.hid hs4
            clear hs4 hu4
            go_wp2_with fail
            go_meet
            exact ⟨rfl, hB4, g4, [], by simp, HA4.out.nil_⟩
          · have eK4 : (K : Int) % 8 = 7 := eK
            clear eK
            go_wp2_with fail
            go_meet
            exact ⟨rfl, hBa, g, xs, by omega, HA.out⟩
          · have k4 : ((r : Int) == 4) = false := by simp; omega
            have k5 : ((r : Int) == 5) = false := by simp; omega
            have k6 : ((r : Int) == 6) = false := by simp; omega
            have k7 : ((r : Int) == 7) = false := by simp; omega
            obtain ⟨ca0, ca1, z0, z1⟩ := cells2 hBa
            by_cases hf : xs.length < room
            · have hf1 : decide (xs.length < room) = true := decide_eq_true hf
              go_wp2_with fail
              refine (RingI.put_room _ _ _ _ _ _ xs N hR hf).mono ?_
              rintro e w4 ⟨rfl, ht⟩
              obtain ⟨g4, hs4⟩ := HA.out.turn ht
              obtain ⟨_, _, _, hu4⟩ := ht
              have hB4 := hBa.kept hu4 (fun hq => hra _ hq rfl)
              obtain ⟨cb0, cb1, zb0, zb1⟩ := cells2 hB4
              have HA4 := Lib.hid hs4
              clear hs4 hu4
              go_wp2_with (go_at_call 20; refine (Ref06.with_any _ _ xs N (ownsRow_rowAt HA4.out.put) (by omega)).mono ?_; rintro e w5 ⟨⟨v5, rfl, ho⟩, hu5⟩)
              go_meet
              exact ⟨rfl, hB4.kept hu5 id, g4, xs ++ [N], by simp; omega, HA4.out.row ho hu5⟩
            · have hf1 : decide (xs.length < room) = false := decide_eq_false hf
              have HA1 := HA
              have hfull : xs.length = room := by
                have h1 := hR.le1
                have h2 := hR.le2
                rw [ints_len] at h1
                omega
              go_wp2_with (go_at_call 9; refine (RingI.put_full _ _ _ _ _ _ xs N hR hfull).mono ?_; rintro e w4 ⟨rfl, q4, rfl⟩)
              go_meet
              exact ⟨rfl, hBa.drewN q4, g, xs, by omega, by have := HA.out.drewN q4; rw [hfull] at this; exact this⟩
      case rest =>
        as_aux_lemma =>
          obtain ⟨rfl, hBc, g', ys, hyk, hst⟩ := hcut
          obtain ⟨mad', mca', rfl, -, -⟩ := ownsRow_rowAt hst.put
          rw [ints_len] at hst ⊢
          obtain ⟨m, hm⟩ : ∃ m, ys.length = m := ⟨_, rfl⟩
          rw [hm] at hst hyk ⊢
          have Hm := Lib.hid hm
          have HS2 := Lib.hid hst
          obtain ⟨fr, len, hR⟩ := HS2.out.ring
          have hl1 := hR.le1
          rw [ints_len, hm] at hl1
          have hl2 := hR.le2
          have ew : IntKind.i64.wrap ((room : Int) - (m : Int)) = (room : Int) - (m : Int) := by rw [IntKind.wrap_i64]; omega
          clear hst HA HS hBa hwA hra eK hr8 hl1 hl2 r0 r1 r2 hm0 hm1
          obtain ⟨cc0, cc1, zc0, zc1⟩ := cells2 hBc
          have hyl : m ≤ 200 := by omega
          obtain ⟨is0, his⟩ : ∃ b, decide (0 < m) = b := ⟨_, rfl⟩
          obtain ⟨in0, hin⟩ : ∃ b, decide (0 ≤ N ∧ N < m) = b := ⟨_, rfl⟩
          obtain ⟨h0, eh, hh⟩ := head_form hm his
          obtain ⟨z0, ez, hz1, hz2⟩ := at_form hm hin
          simp only [ints] at eh ez
          have hH := Lib.hid (RingI.head_any wc _ _ _ _ _ ys hR)
          have hAt := fun u h => Lib.hid (RingI.at_any u w.heap.size g' room fr len ys N hN2 h)
          rw [eh] at hH
          simp only [ez] at hAt
          have His := Lib.hid his
          have Hin := Lib.hid hin
          have HH := Lib.hid hh
          have HZ1 := Lib.hid hz1
          have HZ2 := Lib.hid hz2
          clear eh ez his hin hh hz1 hz2 hm
          go_wp2_with fail
          refine (hH.out).mono ?_
          rintro e w4 ⟨rfl, q4, rfl⟩
          go_wp2_with fail
          refine (hAt (wc.drewN q4) (hR.drewN q4)).out.mono ?_
          rintro e w5 ⟨rfl, q5, rfl⟩
          have hB5 := (hBc.drewN q4).drewN q5
          have HS5 := Lib.hid ((HS2.out.drewN q4).drewN q5)
          clear HS2 hBc hH hAt hR cc0 cc1 zc0 zc1
          generalize (wc.drewN q4).drewN q5 = wd at *
          obtain ⟨cc0, cc1, zc0, zc1⟩ := cells2 hB5
          go_upto_region 30 with fail
          go_cut [18, 58] from 58 to 217 (fun t i wx => t = .bool in0 ∧ i = .int .i64 k ∧ wx = wd)
          case first =>
            rcases Int.lt_or_le N 0 with hN | hN
            · have i1 : decide (N ≥ 0) = false := decide_eq_false (by omega)
              obtain rfl : in0 = false := by rw [← Hin.out]; exact decide_eq_false (by omega)
              go_wp2_with fail
              go_meet
              exact ⟨rfl, rfl, rfl⟩
            · have i1 : decide (N ≥ 0) = true := decide_eq_true (by omega)
              have i2 : decide (N < (m : Int)) = in0 := by rw [← Hin.out]; exact decide_eq_decide.2 ⟨fun h => ⟨hN, h⟩, fun h => h.2⟩
              go_wp2_with fail
              go_meet
              exact ⟨rfl, rfl, rfl⟩
          case rest =>
            obtain ⟨rfl, rfl, hwx⟩ := hcut
            subst hwx
            go_upto_region 31 with fail
            go_cut [58, 183] from 58 to 217 (fun i t wx => i = .int .i64 k ∧ t = .bool false ∧ wx = wc)
            case first =>
              have i0 := His.out
              cases is0 with
              | false =>
                have i4 : decide ((m : Int) > 0) = false := decide_eq_false (by have := of_decide_eq_false i0; omega)
                cases in0 with
                | true => have h1 := of_decide_eq_true Hin.out; have h2 := of_decide_eq_false i0; omega
                | false =>
                  obtain rfl := HZ2.out rfl
                  go_wp2_with fail
                  go_meet
                  exact ⟨rfl, rfl, rfl⟩
              | true =>
                have i4 : decide ((m : Int) > 0) = true := decide_eq_true (by have := of_decide_eq_true i0; omega)
                have i6 : (0 : Int) < m := by have := of_decide_eq_true i0; omega
                obtain ⟨gm, om, rfl, hc0⟩ := HS5.out.at_ (i := 0) (x := h0) (HH.out rfl)
                rw [Nat.add_zero] at hc0
                cases in0 with
                | true =>
                  obtain ⟨Nn, rfl, hzn⟩ := HZ1.out rfl
                  obtain ⟨gm', om', he, hcz⟩ := HS5.out.at_ (i := Nn) (x := z0) hzn
                  obtain ⟨rfl, rfl⟩ : gm' = gm ∧ om' = om := by cases he; exact ⟨rfl, rfl⟩
                  have i3 : (Nn : Int) < (m : Int) := (of_decide_eq_true Hin.out).2
                  clear he hzn
                  go_wp2_with fail
                  go_meet
                  exact ⟨rfl, rfl, rfl⟩
                | false =>
                  obtain rfl := HZ2.out rfl
                  go_wp2_with fail
                  go_meet
                  exact ⟨rfl, rfl, rfl⟩
            case rest =>
              obtain ⟨rfl, rfl, hwx⟩ := hcut
              subst hwx
              go_upto_region 33 with fail
              have hS0 := (Upd.refl Nowhere wc).drew
              go_region_held3 (fun w' => Upd Nowhere wc w' ∧ w'.cell? ⟨wr.heap.size, 1, none⟩ = some (.int .i64 N)) (first | exact ⟨hS0, cc1⟩ | assumption) (first
                | (go_at_call 23; refine (t_len Hm.out HS5.out (by assumption)).mono ?_; rintro e w11 ⟨rfl, hS11⟩)
                | (go_at_call 24; refine (t_room Hm.out HS5.out (by assumption)).mono ?_; rintro e w12 ⟨rfl, hS12⟩)
                | (go_at_call 11; refine (t_all HS5.out (by assumption)).mono ?_; rintro e w13 ⟨v13, rfl, hr13, hu13, hS13⟩)
                | (go_at_call 25; refine (t_last HS5.out hN1 hN2 (by assumption)).mono ?_; rintro e w14 ⟨v14, rfl, hr14, hu14, hS14⟩)
                | (go_at_call 26; refine (t_ref HS5.out (by have := Hm.out; omega) (by assumption)).mono ?_; rintro e w15 ⟨v15, rfl, hr15, hu15, hS15⟩)
                | (go_at_call 12; refine (t_same (by assumption) (by first | exact hr14 | exact hr14.old hu15 | exact hr13) (by first | exact hr15 | exact hr15.old hu14 | exact ownsRow_rowAt (HS5.out.old hS13.1).put) (by have := Hm.out; first | exact last_le (by omega) | omega)).mono ?_; rintro e w16 ⟨rfl, hS16⟩))
              all_goals
                rename_i hSF
                go_wp2_with fail
                go_roundw
                case rel => exact ⟨k + 1, by omega, by go_num, g', ys, by have := Hm.out; omega, HS5.out.old hSF.1⟩
                case measure => simp [intOf]; omega
    · obtain rfl : k = n := by omega
      go_wp2_with (go_at_call 7; refine (ring_lives _).mono ?_; rintro e w' ⟨rfl, hu⟩)
      go_ret
      exact ⟨rfl, (HS.out.upd.trans hu (fun _ _ h => h.elim)).nowhere⟩
end Go.Proofs.Ytcjneckhaempkaa.RingOrder
