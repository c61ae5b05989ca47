/- The reference's turns: Push, rest. -/
import Derived.Test.YtopibbaopglggaaRef29
namespace Go.Proofs.Ytopibbaopglggaa.Ref29
open Go.RowKit Go.Proofs BigFrame
open Ref12 (nums vals)
set_option maxHeartbeats 1000000
set_option maxRecDepth 1000000
/-- What turns of it leave. -/
def Turned (B : Nat) (w w' : World) (b n gq oq cq : Nat) (cv iv rv : Value) (q cr' : Nat → Nat) (its' : List It) (row' : List Nat) (bg' : Bool) : Prop :=
  ∃ iv' rv', R B w' b n n gq oq cq cv iv' rv' q cr' its' row' bg' ∧ (∀ k, Of b cv iv' rv' k → Of b cv iv rv k ∨ w.heap.size ≤ k) ∧ Upd (Of b cv iv rv) w w'
section
variable {B : Nat} {w : World} {b n gq oq cq : Nat} {cv iv rv : Value} {q cr : Nat → Nat} {its : List It} {row : List Nat} {bg : Bool}
theorem push7 (h : R B w b n n gq oq cq cv iv rv q cr its row bg) {c : Int} (hc : c < 0 ∨ (n : Int) ≤ c) (size idn : Int) :
    Calls Try.prog 38 #[.pointer (some ⟨b, 0, none⟩), .int .i64 c, .int .u64 size, .int .i64 idn] w fun e w' => e = .returned (.int .i64 7) ∧ w = w' := by
  obtain ⟨c0, c1, c2, c3, c4, z0, z1, z2, z3, z4⟩ := cells5 h.blk
  clear h
  rcases Int.lt_or_le c 0 with h0 | h0
  · have d1 : decide (c < 0) = true := decide_eq_true h0
    clear hc h0
    go_enter Try.func38, Try.ntmps38
    go_wp2_with fail
    go_ret
    exact ⟨rfl, rfl⟩
  · have d1 : decide (c < 0) = false := decide_eq_false (by omega)
    have d2 : decide (c ≥ n) = true := decide_eq_true (by omega)
    have d3 : decide ((n : Int) ≤ c) = true := decide_eq_true (by omega)
    clear hc h0
    go_enter Try.func38, Try.ntmps38
    go_wp2_with fail
    go_ret
    exact ⟨rfl, rfl⟩
theorem push12 (h : R B w b n n gq oq cq cv iv rv q cr its row bg) {c : Nat} (hc : c < n) (size : Nat) (idn : Int) (hs : size = 0 ∨ 65535 < size) :
    Calls Try.prog 38 #[.pointer (some ⟨b, 0, none⟩), .int .i64 c, .int .u64 size, .int .i64 idn] w fun e w' => e = .returned (.int .i64 12) ∧ w = w' := by
  obtain ⟨c0, c1, c2, c3, c4, z0, z1, z2, z3, z4⟩ := cells5 h.blk
  have d1 : decide ((c : Int) < 0) = false := decide_eq_false (by omega)
  have d2 : decide (c ≥ n) = false := decide_eq_false (by omega)
  have d3 : decide (n ≤ c) = false := decide_eq_false (by omega)
  have d4 : decide ((n : Int) ≤ c) = false := decide_eq_false (by omega)
  have d5 : decide ((c : Int) ≥ n) = false := decide_eq_false (by omega)
  clear h
  rcases hs with h0 | h0
  · have d6 : decide ((size : Int) < 1) = true := decide_eq_true (by omega)
    clear h0 hc
    go_enter Try.func38, Try.ntmps38
    go_wp2_with fail
    go_ret
    exact ⟨rfl, rfl⟩
  · have d6 : decide ((size : Int) < 1) = false := decide_eq_false (by omega)
    have d7 : decide ((size : Int) > 65535) = true := decide_eq_true (by omega)
    have d8 : decide (65535 < (size : Int)) = true := decide_eq_true (by omega)
    clear h0 hc
    go_enter Try.func38, Try.ntmps38
    go_wp2_with fail
    go_ret
    exact ⟨rfl, rfl⟩
theorem push20 (h : R B w b n n gq oq cq cv iv rv q cr its row bg) (hl : its.length ≤ 1000000) {c : Nat} (hc : c < n) (size : Nat) (idn : Int) (h1 : 1 ≤ size) (h2 : size ≤ 65535) (hs : 1024 ≤ cof its c) :
    Calls Try.prog 38 #[.pointer (some ⟨b, 0, none⟩), .int .i64 c, .int .u64 size, .int .i64 idn] w fun e w' => e = .returned (.int .i64 20) ∧ w = w' := by
  obtain ⟨c0, c1, c2, c3, c4, z0, z1, z2, z3, z4⟩ := cells5 h.blk
  have HC := Lib.hid (count_any h hl c)
  generalize cof its c = m at *
  have d1 : decide ((c : Int) < 0) = false := decide_eq_false (by omega)
  have d3 : decide (n ≤ c) = false := decide_eq_false (by omega)
  have d4 : decide ((n : Int) ≤ c) = false := decide_eq_false (by omega)
  have d5 : decide ((c : Int) ≥ n) = false := decide_eq_false (by omega)
  have d6 : decide ((size : Int) < 1) = false := decide_eq_false (by omega)
  have d7 : decide ((size : Int) > 65535) = false := decide_eq_false (by omega)
  have d8 : decide (65535 < (size : Int)) = false := decide_eq_false (by omega)
  have d9 : decide ((m : Int) ≥ 1024) = true := decide_eq_true (by omega)
  have da : decide (1024 ≤ (m : Int)) = true := decide_eq_true (by omega)
  clear h hs h1 h2 hc
  go_enter Try.func38, Try.ntmps38
  go_wp2_with fail
  refine (HC.out).mono ?_
  rintro e w' ⟨rfl, rfl⟩
  go_wp2_with fail
  go_ret
  exact ⟨rfl, rfl⟩
theorem push_ok (h : R B w b n n gq oq cq cv iv rv q cr its row bg) (hB : B ≤ w.heap.size) (hl : its.length ≤ 1000000) (hr : row.length ≤ 64) {c : Nat} (hc : c < n) (size : Nat) (idn : Int) (h1 : 1 ≤ size) (h2 : size ≤ 65535) (hs : cof its c < 1024) :
    Calls Try.prog 38 #[.pointer (some ⟨b, 0, none⟩), .int .i64 c, .int .u64 size, .int .i64 idn] w fun e w' => e = .returned (.int .i64 0) ∧ Turned B w w' b n gq oq cq cv iv rv q cr (its ++ [(c, size, idn)]) (if cof its c = 0 then row ++ [c] else row) bg := by
  obtain ⟨i0, hi, hz0, hz1, hz2⟩ := info_parts infoJ
  obtain ⟨j0, hj, jz0, jz1, jz2⟩ := info_parts infoI
  obtain ⟨c0, c1, c2, c3, c4, z0, z1, z2, z3, z4⟩ := cells5 h.blk
  have HC := Lib.hid (count_any h hl c)
  generalize cof its c = m at *
  have d1 : decide ((c : Int) < 0) = false := decide_eq_false (by omega)
  have d3 : decide (n ≤ c) = false := decide_eq_false (by omega)
  have d4 : decide ((n : Int) ≤ c) = false := decide_eq_false (by omega)
  have d5 : decide ((c : Int) ≥ n) = false := decide_eq_false (by omega)
  have d6 : decide ((size : Int) < 1) = false := decide_eq_false (by omega)
  have d7 : decide ((size : Int) > 65535) = false := decide_eq_false (by omega)
  have d8 : decide (65535 < (size : Int)) = false := decide_eq_false (by omega)
  have d9 : decide ((m : Int) ≥ 1024) = false := decide_eq_false (by omega)
  have da : decide (1024 ≤ (m : Int)) = false := decide_eq_false (by omega)
  obtain ⟨L, hL⟩ : ∃ L, its.length = L := ⟨_, rfl⟩
  obtain ⟨M, hM⟩ : ∃ M, row.length = M := ⟨_, rfl⟩
  obtain ⟨ai, ci, rfl⟩ := own_form h.itm
  obtain ⟨ar, cc, rfl⟩ := own_form h.rww
  rw [hL, hM] at h
  rw [hL] at c2 hl ⊢
  rw [hM] at c3 hr ⊢
  have H := Lib.hid h
  have HL := Lib.hid hL
  have HM := Lib.hid hM
  have hbs := h.blk.lt
  clear h hs h1 h2 hc hL hM
  rcases Nat.eq_zero_or_pos m with hm | hm
  · have db : ((m : Int) == 0) = true := by simp [hm]
    rw [if_pos hm]
    clear hm
    go_enter Try.func38, Try.ntmps38
    go_wp2_with fail
    refine (HC.out).mono ?_
    rintro e w' ⟨rfl, rfl⟩
    go_upto_region 10 with (at_builtin; refine wpList_push rfl _ _ 39 rfl B TJ i0 (.int .i64 0) 1 8 Try.underlying39 hi hz0 hz1 hz2 rfl (by decide) (by decide) (.slice ar M cc) M (irow row) rfl (by have h := H.out.rww; rw [HM.out] at h; exact ownsRow_upd h ((Upd.refl _ _).alloc _) (fun _ _ h => h)) w.heap.size 1 [.int .i64 (c : Nat)] rfl rfl (new_cells w #[_] _) (by simp [Value.oneCell']) (by omega) (by simp; omega) ?_; intro v3 w3 hown hu3 hno; have hg := H.out.newRow (row' := row ++ [c]) ((Upd.refl _ _).alloc (.cells #[.int .i64 (c : Nat)] TJ)) hu3 (by rw [List.length_append, HM.out]; unfold irow at hown ⊢; rw [List.map_append]; exact hown) hno; have HU3 := Lib.hid (((Upd.refl (Of b cv (.slice ai L ci) (.slice ar M cc)) w).alloc (.cells #[.int .i64 (c : Nat)] TJ)).trans hu3 (fun q hq h => .inr (.inr (.inr h)))); have HN3 := Lib.hid hno; have HH3 := Lib.hid hg.1; obtain ⟨x0, x1, x2, x3, x4, e0, e1, e2, e3, e4⟩ := cells5 hg.2; obtain ⟨ab3, cb3, rfl⟩ := own_form hown; clear hg hown hu3 hno)
    obtain ⟨w5, hw5⟩ : ∃ w5, w3.setCell ⟨b, 3, none⟩ (.slice ab3 (M + 1) cb3) = w5 := ⟨_, rfl⟩
    have HU5 := Lib.hid (HU3.out.setCell (a := ⟨b, 3, none⟩) (fun _ => .inl rfl) (.slice ab3 (M + 1) cb3))
    rw [hw5] at HH3 HU5 ⊢
    clear x0 x1 x2 x3 x4 e0 e1 e2 e3 e4 hw5 c0 c1 c2 c3 c4 z0 z1 z2 z3 z4 HU3
    obtain ⟨x0, x1, x2, x3, x4, e0, e1, e2, e3, e4⟩ := cells5 HH3.out.blk
    go_wp2_with (at_builtin; refine wpList_push rfl _ _ 83 rfl B TI j0 (.agg #[.int .i64 0, .int .u64 0, .int .i64 0]) 3 24 Try.underlying83 hj jz0 jz1 jz2 rfl (by decide) (by decide) (.slice ai L ci) L (icells its) rfl (by have h := HH3.out.itm; rw [HL.out] at h; exact ownsRow_upd h ((Upd.refl _ _).alloc _) (fun _ _ h => h)) w5.heap.size 1 [.int .i64 (c : Nat), .int .u64 (size : Nat), .int .i64 idn] rfl rfl (new_cells w5 #[_, _, _] _) (by simp [Value.oneCell']) (by omega) (by have := HU5.out.size; simp; omega) ?_; intro v6 w6 hown6 hu6 hno6; have hg6 := HH3.out.newIts (its' := its ++ [(c, size, idn)]) ((Upd.refl _ _).alloc (.cells #[.int .i64 (c : Nat), .int .u64 (size : Nat), .int .i64 idn] TI)) hu6 (by rw [List.length_append, HL.out, icells_append]; exact hown6) hno6; have HU6 := Lib.hid ((HU5.out.alloc (.cells #[.int .i64 (c : Nat), .int .u64 (size : Nat), .int .i64 idn] TI)).trans hu6 (fun q hq h => .inr (.inr (.inl h)))); have HN6 := Lib.hid hno6; have HH6 := Lib.hid hg6.1; obtain ⟨x0, x1, x2, x3, x4, e0, e1, e2, e3, e4⟩ := cells5 hg6.2; obtain ⟨ab6, cb6, rfl⟩ := own_form hown6; clear hg6 hown6 hu6 hno6)
    go_ret
    refine ⟨rfl, _, _, HH6.out, fun k hk => ?_, HU6.out.setCell (a := ⟨b, 2, none⟩) (fun _ => .inl rfl) _⟩
    rcases hk with h | h | h | h
    · exact .inl (.inl h)
    · exact .inl (.inr (.inl h))
    · rcases HN6.out k h with h' | h'
      · exact .inl (.inr (.inr (.inl h')))
      · exact .inr (by have := HU5.out.size; simp at h'; omega)
    · exact (HN3.out k h).imp (fun h' => .inr (.inr (.inr h'))) (fun h' => by simp at h'; omega)
  · have db : ((m : Int) == 0) = false := by simp; omega
    rw [if_neg (by omega)]
    have HUr := Lib.hid (Upd.refl (Of b cv (.slice ai L ci) (.slice ar M cc)) w)
    clear hm
    go_enter Try.func38, Try.ntmps38
    go_wp2_with fail
    refine (HC.out).mono ?_
    rintro e w' ⟨rfl, rfl⟩
    go_wp2_with (at_builtin; refine wpList_push rfl _ _ 83 rfl B TI j0 (.agg #[.int .i64 0, .int .u64 0, .int .i64 0]) 3 24 Try.underlying83 hj jz0 jz1 jz2 rfl (by decide) (by decide) (.slice ai L ci) L (icells its) rfl (by have h := H.out.itm; rw [HL.out] at h; exact ownsRow_upd h ((Upd.refl _ _).alloc _) (fun _ _ h => h)) w.heap.size 1 [.int .i64 (c : Nat), .int .u64 (size : Nat), .int .i64 idn] rfl rfl (new_cells w #[_, _, _] _) (by simp [Value.oneCell']) (by omega) (by have := HUr.out.size; simp; omega) ?_; intro v6 w6 hown6 hu6 hno6; have hg6 := H.out.newIts (its' := its ++ [(c, size, idn)]) ((Upd.refl _ _).alloc (.cells #[.int .i64 (c : Nat), .int .u64 (size : Nat), .int .i64 idn] TI)) hu6 (by rw [List.length_append, HL.out, icells_append]; exact hown6) hno6; have HU6 := Lib.hid ((HUr.out.alloc (.cells #[.int .i64 (c : Nat), .int .u64 (size : Nat), .int .i64 idn] TI)).trans hu6 (fun q hq h => .inr (.inr (.inl h)))); have HN6 := Lib.hid hno6; have HH6 := Lib.hid hg6.1; obtain ⟨x0, x1, x2, x3, x4, e0, e1, e2, e3, e4⟩ := cells5 hg6.2; obtain ⟨ab6, cb6, rfl⟩ := own_form hown6; clear hg6 hown6 hu6 hno6)
    go_ret
    refine ⟨rfl, _, _, HH6.out, fun k hk => ?_, HU6.out.setCell (a := ⟨b, 2, none⟩) (fun _ => .inl rfl) _⟩
    rcases hk with h | h | h | h
    · exact .inl (.inl h)
    · exact .inl (.inr (.inl h))
    · rcases HN6.out k h with h' | h'
      · exact .inl (.inr (.inr (.inl h')))
      · exact .inr (by have := HUr.out.size; simp at h'; omega)
    · exact .inl (.inr (.inr (.inr h)))
theorem sub_row {g cv2 : Nat} {x : Nat} {r : List Nat} {v : Value} (h : w.ownsRow B TJ 1 v (x :: r).length (irow (x :: r))) (hv : v = .slice (some ⟨g, 0, none⟩) (x :: r).length (cv2 + 1)) : ∀ b, b = (⟨g, 1, none⟩ : Addr) → ∀ j u, (irow r)[j]? = some u → w.cell? (b.add j) = some u := by
  subst hv
  intro b hb j u hu
  subst hb
  have h1 := World.ownsRow.cells h rfl (j + 1) u (by unfold irow at hu ⊢; simpa using hu)
  rw [add_at] at h1 ⊢
  rw [show 1 + j = 0 + (j + 1) by omega]
  exact h1
theorem irow_one (l : List Nat) : ∀ u ∈ irow l, u.oneCell' = true := fun u hu => by
  obtain ⟨x, _, rfl⟩ := List.mem_map.1 hu; rfl
variable {c : Nat} {r : List Nat}
theorem rest_again (h : R B w b n n gq oq cq cv iv rv q cr its (c :: r) bg) (hB : B ≤ w.heap.size) (hr : r.length ≤ 64) :
    Calls Try.prog 69 #[.pointer (some ⟨b, 0, none⟩), .bool true] w fun e w' => e = .returned (.tuple #[]) ∧ Turned B w w' b n gq oq cq cv iv rv q cr its (r ++ [c]) false := by
  obtain ⟨i0, hi, hz0, hz1, hz2⟩ := info_parts infoJ
  obtain ⟨c0, c1, c2, c3, c4, z0, z1, z2, z3, z4⟩ := cells5 h.blk
  obtain ⟨g, cc, rfl, k0⟩ := h.rcell (i := 0) (x := c) rfl
  obtain ⟨M, hM⟩ : ∃ M, r.length = M := ⟨_, rfl⟩
  have hlen : (c :: r).length = M + 1 := by simp [hM]
  have hcc : M + 1 ≤ cc := by
    rcases h.rww.2 with ⟨h0, _⟩ | ⟨g', c', cur, he, _, _, h1, _⟩
    · cases h0
    · cases he; omega
  obtain ⟨cv2, rfl⟩ : ∃ x, cc = x + 1 := ⟨cc - 1, by omega⟩
  have hsub := sub_row h.rww rfl
  rw [hlen] at h c3 ⊢
  rw [hM] at hr
  have H := Lib.hid h
  have HM := Lib.hid hM
  have hbs := h.blk.lt
  clear h hM hlen
  by_cases hcv : cv2 = 0
  · subst hcv
    obtain rfl : M = 0 := by omega
    have hrn : r = [] := List.eq_nil_of_length_eq_zero HM.out
    have HSUB : ∀ b, (some ⟨g, 0, none⟩ : Option Addr) = some b → ∀ j u, (irow r)[j]? = some u → w.cell? (b.add j) = some u := fun b hb j u hu => by rw [hrn] at hu; cases hu
    go_enter Try.func69, Try.ntmps69
    go_upto_region 2 with (at_builtin; refine wpList_app rfl _ _ 39 rfl w.heap.size TJ i0 (.int .i64 0) 1 8 Try.underlying39 hi hz0 hz1 hz2 rfl (by decide) (by decide) (.slice none 0 0) 0 [] rfl (ownsRow_nil _ _ _ _) (some ⟨g, 0, none⟩) 0 (0) (irow r) rfl (by intro h; cases h) (by rw [irow_len, HM.out, Nat.mul_one]) HSUB (irow_one _) (by omega) (Nat.le_refl _) ?_; intro v3 w3 hown3 hu3 hno3; rw [Nat.zero_add, List.nil_append] at hown3; obtain ⟨ad3, c3', rfl⟩ := own_form hown3; have HU3 := Lib.hid (show Upd Nowhere w w3 from hu3.mono (fun k _ h => by cases h)); have HO3 := Lib.hid hown3; clear hown3 hu3 hno3)
    have b0 := cell_old HU3.out c0
    have b3 := cell_old HU3.out c3
    have b4 := cell_old HU3.out c4
    have k1 := cell_old HU3.out k0
    have hsz := HU3.out.size
    obtain ⟨-, -, -, -, -, f0, f1, f2, f3, f4⟩ := cells5 (H.out.old HU3.out).blk
    clear c0 c1 c2 c3 c4 z0 z1 z2 z3 z4 k0
    go_upto_region 4 with (at_builtin; refine wpList_push rfl _ _ 39 rfl w.heap.size TJ i0 (.int .i64 0) 1 8 Try.underlying39 hi hz0 hz1 hz2 rfl (by decide) (by decide) (.slice ad3 0 c3') 0 (irow r) rfl (ownsRow_upd HO3.out ((Upd.refl _ _).alloc _) (fun _ _ h => h)) w3.heap.size 1 [.int .i64 (c : Nat)] rfl rfl (new_cells w3 #[_] _) (by simp [Value.oneCell']) (by omega) (by simp; omega) ?_; intro v4 w4 hown4 hu4 hno4; obtain ⟨ad4, c4', rfl⟩ := own_form hown4; have HU4 := Lib.hid ((HU3.out.alloc (.cells #[.int .i64 (c : Nat)] TJ)).trans hu4 (fun q hq h => absurd hq (Nat.not_lt.2 (HO3.out.lt q h).1))); have HO4 := Lib.hid hown4; clear hown4 hu4 hno4)
    clear b0 b3 b4 k1 f0 f1 f2 f3 f4
    have hg := H.out.newRow (wx := w) (w1 := w4) (v := .slice ad4 (0 + 1) c4') (row' := r ++ [c]) (Upd.refl _ _) (HU4.out.any _) (by rw [List.length_append, HM.out]; have h := ownsRow_base HO4.out hB; unfold irow at h ⊢; rw [List.map_append]; exact h) (fun k hk => .inr (HO4.out.lt k hk).1)
    obtain ⟨x0, x1, x2, x3, x4, e0, e1, e2, e3, e4⟩ := cells5 hg.2
    have HH := Lib.hid hg.1
    clear hg
    go_upto_region 5 with fail
    obtain ⟨w5, hw5⟩ : ∃ w5, w4.setCell ⟨b, 3, none⟩ (.slice ad4 (0 + 1) c4') = w5 := ⟨_, rfl⟩
    have HU5 := Lib.hid ((HU4.out.any (Of b cv iv (.slice (some ⟨g, 0, none⟩) (0 + 1) (0 + 1)))).setCell (a := ⟨b, 3, none⟩) (fun _ => .inl rfl) (.slice ad4 (0 + 1) c4'))
    rw [hw5] at HH HU5 ⊢
    clear x0 x1 x2 x3 x4 e0 e1 e2 e3 e4 hw5
    obtain ⟨x0, x1, x2, x3, x4, e0, e1, e2, e3, e4⟩ := cells5 HH.out.blk
    go_wp2_with fail
    go_end0
    refine ⟨rfl, iv, _, HH.out.setBg false, fun k hk => ?_, HU5.out.setCell (a := ⟨b, 4, none⟩) (fun _ => .inl rfl) _⟩
    rcases hk with h | h | h | h
    · exact .inl (.inl h)
    · exact .inl (.inr (.inl h))
    · exact .inl (.inr (.inr (.inl h)))
    · exact .inr (HO4.out.lt k h).1
  · have HSUB : ∀ b, (some ⟨g, 1, none⟩ : Option Addr) = some b → ∀ j u, (irow r)[j]? = some u → w.cell? (b.add j) = some u := fun b hb j u hu => hsub b (Option.some.inj hb).symm j u hu
    go_enter Try.func69, Try.ntmps69
    go_upto_region 2 with (at_builtin; refine wpList_app rfl _ _ 39 rfl w.heap.size TJ i0 (.int .i64 0) 1 8 Try.underlying39 hi hz0 hz1 hz2 rfl (by decide) (by decide) (.slice none 0 0) 0 [] rfl (ownsRow_nil _ _ _ _) (some ⟨g, 1, none⟩) M (cv2) (irow r) rfl (by intro h; cases h) (by rw [irow_len, HM.out, Nat.mul_one]) HSUB (irow_one _) (by omega) (Nat.le_refl _) ?_; intro v3 w3 hown3 hu3 hno3; rw [Nat.zero_add, List.nil_append] at hown3; obtain ⟨ad3, c3', rfl⟩ := own_form hown3; have HU3 := Lib.hid (show Upd Nowhere w w3 from hu3.mono (fun k _ h => by cases h)); have HO3 := Lib.hid hown3; clear hown3 hu3 hno3)
    have b0 := cell_old HU3.out c0
    have b3 := cell_old HU3.out c3
    have b4 := cell_old HU3.out c4
    have k1 := cell_old HU3.out k0
    have hsz := HU3.out.size
    obtain ⟨-, -, -, -, -, f0, f1, f2, f3, f4⟩ := cells5 (H.out.old HU3.out).blk
    clear c0 c1 c2 c3 c4 z0 z1 z2 z3 z4 k0
    go_upto_region 4 with (at_builtin; refine wpList_push rfl _ _ 39 rfl w.heap.size TJ i0 (.int .i64 0) 1 8 Try.underlying39 hi hz0 hz1 hz2 rfl (by decide) (by decide) (.slice ad3 M c3') M (irow r) rfl (ownsRow_upd HO3.out ((Upd.refl _ _).alloc _) (fun _ _ h => h)) w3.heap.size 1 [.int .i64 (c : Nat)] rfl rfl (new_cells w3 #[_] _) (by simp [Value.oneCell']) (by omega) (by simp; omega) ?_; intro v4 w4 hown4 hu4 hno4; obtain ⟨ad4, c4', rfl⟩ := own_form hown4; have HU4 := Lib.hid ((HU3.out.alloc (.cells #[.int .i64 (c : Nat)] TJ)).trans hu4 (fun q hq h => absurd hq (Nat.not_lt.2 (HO3.out.lt q h).1))); have HO4 := Lib.hid hown4; clear hown4 hu4 hno4)
    clear b0 b3 b4 k1 f0 f1 f2 f3 f4
    have hg := H.out.newRow (wx := w) (w1 := w4) (v := .slice ad4 (M + 1) c4') (row' := r ++ [c]) (Upd.refl _ _) (HU4.out.any _) (by rw [List.length_append, HM.out]; have h := ownsRow_base HO4.out hB; unfold irow at h ⊢; rw [List.map_append]; exact h) (fun k hk => .inr (HO4.out.lt k hk).1)
    obtain ⟨x0, x1, x2, x3, x4, e0, e1, e2, e3, e4⟩ := cells5 hg.2
    have HH := Lib.hid hg.1
    clear hg
    go_upto_region 5 with fail
    obtain ⟨w5, hw5⟩ : ∃ w5, w4.setCell ⟨b, 3, none⟩ (.slice ad4 (M + 1) c4') = w5 := ⟨_, rfl⟩
    have HU5 := Lib.hid ((HU4.out.any (Of b cv iv (.slice (some ⟨g, 0, none⟩) (M + 1) (cv2 + 1)))).setCell (a := ⟨b, 3, none⟩) (fun _ => .inl rfl) (.slice ad4 (M + 1) c4'))
    rw [hw5] at HH HU5 ⊢
    clear x0 x1 x2 x3 x4 e0 e1 e2 e3 e4 hw5
    obtain ⟨x0, x1, x2, x3, x4, e0, e1, e2, e3, e4⟩ := cells5 HH.out.blk
    go_wp2_with fail
    go_end0
    refine ⟨rfl, iv, _, HH.out.setBg false, fun k hk => ?_, HU5.out.setCell (a := ⟨b, 4, none⟩) (fun _ => .inl rfl) _⟩
    rcases hk with h | h | h | h
    · exact .inl (.inl h)
    · exact .inl (.inr (.inl h))
    · exact .inl (.inr (.inr (.inl h)))
    · exact .inr (HO4.out.lt k h).1
theorem rest_on (h : R B w b n n gq oq cq cv iv rv q cr its (c :: r) bg) (hB : B ≤ w.heap.size) (hr : r.length ≤ 64) :
    Calls Try.prog 69 #[.pointer (some ⟨b, 0, none⟩), .bool false] w fun e w' => e = .returned (.tuple #[]) ∧ Turned B w w' b n gq oq cq cv iv rv q cr its (r) false := by
  obtain ⟨i0, hi, hz0, hz1, hz2⟩ := info_parts infoJ
  obtain ⟨c0, c1, c2, c3, c4, z0, z1, z2, z3, z4⟩ := cells5 h.blk
  obtain ⟨g, cc, rfl, k0⟩ := h.rcell (i := 0) (x := c) rfl
  obtain ⟨M, hM⟩ : ∃ M, r.length = M := ⟨_, rfl⟩
  have hlen : (c :: r).length = M + 1 := by simp [hM]
  have hcc : M + 1 ≤ cc := by
    rcases h.rww.2 with ⟨h0, _⟩ | ⟨g', c', cur, he, _, _, h1, _⟩
    · cases h0
    · cases he; omega
  obtain ⟨cv2, rfl⟩ : ∃ x, cc = x + 1 := ⟨cc - 1, by omega⟩
  have hsub := sub_row h.rww rfl
  rw [hlen] at h c3 ⊢
  rw [hM] at hr
  have H := Lib.hid h
  have HM := Lib.hid hM
  have hbs := h.blk.lt
  clear h hM hlen
  by_cases hcv : cv2 = 0
  · subst hcv
    obtain rfl : M = 0 := by omega
    have hrn : r = [] := List.eq_nil_of_length_eq_zero HM.out
    have HSUB : ∀ b, (some ⟨g, 0, none⟩ : Option Addr) = some b → ∀ j u, (irow r)[j]? = some u → w.cell? (b.add j) = some u := fun b hb j u hu => by rw [hrn] at hu; cases hu
    go_enter Try.func69, Try.ntmps69
    go_upto_region 2 with (at_builtin; refine wpList_app rfl _ _ 39 rfl w.heap.size TJ i0 (.int .i64 0) 1 8 Try.underlying39 hi hz0 hz1 hz2 rfl (by decide) (by decide) (.slice none 0 0) 0 [] rfl (ownsRow_nil _ _ _ _) (some ⟨g, 0, none⟩) 0 (0) (irow r) rfl (by intro h; cases h) (by rw [irow_len, HM.out, Nat.mul_one]) HSUB (irow_one _) (by omega) (Nat.le_refl _) ?_; intro v3 w3 hown3 hu3 hno3; rw [Nat.zero_add, List.nil_append] at hown3; obtain ⟨ad3, c3', rfl⟩ := own_form hown3; have HU3 := Lib.hid (show Upd Nowhere w w3 from hu3.mono (fun k _ h => by cases h)); have HO3 := Lib.hid hown3; clear hown3 hu3 hno3)
    have b0 := cell_old HU3.out c0
    have b3 := cell_old HU3.out c3
    have b4 := cell_old HU3.out c4
    have k1 := cell_old HU3.out k0
    have hsz := HU3.out.size
    obtain ⟨-, -, -, -, -, f0, f1, f2, f3, f4⟩ := cells5 (H.out.old HU3.out).blk
    clear c0 c1 c2 c3 c4 z0 z1 z2 z3 z4 k0
    clear b0 b3 b4 k1 f0 f1 f2 f3 f4
    have hg := H.out.newRow (wx := w) (w1 := w3) (v := .slice ad3 0 c3') (row' := r) (Upd.refl _ _) (HU3.out.any _) (by rw [HM.out]; exact ownsRow_base HO3.out hB) (fun k hk => .inr (HO3.out.lt k hk).1)
    obtain ⟨x0, x1, x2, x3, x4, e0, e1, e2, e3, e4⟩ := cells5 hg.2
    have HH := Lib.hid hg.1
    clear hg
    go_upto_region 5 with fail
    obtain ⟨w5, hw5⟩ : ∃ w5, w3.setCell ⟨b, 3, none⟩ (.slice ad3 0 c3') = w5 := ⟨_, rfl⟩
    have HU5 := Lib.hid ((HU3.out.any (Of b cv iv (.slice (some ⟨g, 0, none⟩) (0 + 1) (0 + 1)))).setCell (a := ⟨b, 3, none⟩) (fun _ => .inl rfl) (.slice ad3 0 c3'))
    rw [hw5] at HH HU5 ⊢
    clear x0 x1 x2 x3 x4 e0 e1 e2 e3 e4 hw5
    obtain ⟨x0, x1, x2, x3, x4, e0, e1, e2, e3, e4⟩ := cells5 HH.out.blk
    go_wp2_with fail
    go_end0
    refine ⟨rfl, iv, _, HH.out.setBg false, fun k hk => ?_, HU5.out.setCell (a := ⟨b, 4, none⟩) (fun _ => .inl rfl) _⟩
    rcases hk with h | h | h | h
    · exact .inl (.inl h)
    · exact .inl (.inr (.inl h))
    · exact .inl (.inr (.inr (.inl h)))
    · exact .inr (HO3.out.lt k h).1
  · have HSUB : ∀ b, (some ⟨g, 1, none⟩ : Option Addr) = some b → ∀ j u, (irow r)[j]? = some u → w.cell? (b.add j) = some u := fun b hb j u hu => hsub b (Option.some.inj hb).symm j u hu
    go_enter Try.func69, Try.ntmps69
    go_upto_region 2 with (at_builtin; refine wpList_app rfl _ _ 39 rfl w.heap.size TJ i0 (.int .i64 0) 1 8 Try.underlying39 hi hz0 hz1 hz2 rfl (by decide) (by decide) (.slice none 0 0) 0 [] rfl (ownsRow_nil _ _ _ _) (some ⟨g, 1, none⟩) M (cv2) (irow r) rfl (by intro h; cases h) (by rw [irow_len, HM.out, Nat.mul_one]) HSUB (irow_one _) (by omega) (Nat.le_refl _) ?_; intro v3 w3 hown3 hu3 hno3; rw [Nat.zero_add, List.nil_append] at hown3; obtain ⟨ad3, c3', rfl⟩ := own_form hown3; have HU3 := Lib.hid (show Upd Nowhere w w3 from hu3.mono (fun k _ h => by cases h)); have HO3 := Lib.hid hown3; clear hown3 hu3 hno3)
    have b0 := cell_old HU3.out c0
    have b3 := cell_old HU3.out c3
    have b4 := cell_old HU3.out c4
    have k1 := cell_old HU3.out k0
    have hsz := HU3.out.size
    obtain ⟨-, -, -, -, -, f0, f1, f2, f3, f4⟩ := cells5 (H.out.old HU3.out).blk
    clear c0 c1 c2 c3 c4 z0 z1 z2 z3 z4 k0
    clear b0 b3 b4 k1 f0 f1 f2 f3 f4
    have hg := H.out.newRow (wx := w) (w1 := w3) (v := .slice ad3 M c3') (row' := r) (Upd.refl _ _) (HU3.out.any _) (by rw [HM.out]; exact ownsRow_base HO3.out hB) (fun k hk => .inr (HO3.out.lt k hk).1)
    obtain ⟨x0, x1, x2, x3, x4, e0, e1, e2, e3, e4⟩ := cells5 hg.2
    have HH := Lib.hid hg.1
    clear hg
    go_upto_region 5 with fail
    obtain ⟨w5, hw5⟩ : ∃ w5, w3.setCell ⟨b, 3, none⟩ (.slice ad3 M c3') = w5 := ⟨_, rfl⟩
    have HU5 := Lib.hid ((HU3.out.any (Of b cv iv (.slice (some ⟨g, 0, none⟩) (M + 1) (cv2 + 1)))).setCell (a := ⟨b, 3, none⟩) (fun _ => .inl rfl) (.slice ad3 M c3'))
    rw [hw5] at HH HU5 ⊢
    clear x0 x1 x2 x3 x4 e0 e1 e2 e3 e4 hw5
    obtain ⟨x0, x1, x2, x3, x4, e0, e1, e2, e3, e4⟩ := cells5 HH.out.blk
    go_wp2_with fail
    go_end0
    refine ⟨rfl, iv, _, HH.out.setBg false, fun k hk => ?_, HU5.out.setCell (a := ⟨b, 4, none⟩) (fun _ => .inl rfl) _⟩
    rcases hk with h | h | h | h
    · exact .inl (.inl h)
    · exact .inl (.inr (.inl h))
    · exact .inl (.inr (.inr (.inl h)))
    · exact .inr (HO3.out.lt k h).1
end
end Go.Proofs.Ytopibbaopglggaa.Ref29
