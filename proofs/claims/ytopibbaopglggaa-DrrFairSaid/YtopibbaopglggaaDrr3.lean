/- drr: Push. -/
import Derived.Test.YtopibbaopglggaaDrr2
import Derived.Test.YtopibbaopglggaaLane
namespace Go.Proofs.Ytopibbaopglggaa.Drr
open Go.RowKit Go.Proofs BigFrame
open PairD (TR TE el)
set_option maxHeartbeats 4000000
set_option maxRecDepth 1000000
/-- What a call leaves: the same classes, in blocks that were theirs, or are new. -/
def Turned (w w' : World) (t gc cc n cnt : Nat) (rv : Value) (st : Turn) (q rb : Nat → Nat) (rg : Nat → Option Nat) (its : Items) (rv0 : Value) (rg0 : Nat → Option Nat) : Prop :=
  D w' t gc cc n cnt rv st q rb rg its ∧ (∀ k, DrrOf t gc n rv rb rg k → DrrOf t gc n rv0 rb rg0 k ∨ w.heap.size ≤ k) ∧ Upd (DrrOf t gc n rv0 rb rg0) w w'
theorem map_upd (its : Items) (c : Nat) (l : List (Nat × Int)) : upd (fun i => (its i).map elN) c (l.map elN) = fun i => (upd its c l i).map elN := upd_map elN its c l
section
variable {w : World} {t gc cc n cnt : Nat} {rv : Value} {st : Turn} {q rb : Nat → Nat} {rg : Nat → Option Nat} {its : Items}
theorem push_none (h : D w t gc cc n cnt rv st q rb rg its) {c : Int} (hc : c < 0 ∨ (n : Int) ≤ c) (size id : Int) :
    Calls Try.prog 21 #[.pointer (some ⟨t, 0, none⟩), .int .i64 c, .int .u64 size, .int .i64 id] w fun e w' => e = .returned (.int .i64 7) ∧ w = w' := by
  have hH := Lib.hid (has_out h hc)
  clear h hc
  go_enter Try.func21, Try.ntmps21
  go_wp2_with fail
  refine (hH.out).mono ?_
  rintro e w' ⟨rfl, rfl⟩
  go_wp2_with fail
  go_ret
  exact ⟨rfl, rfl⟩
theorem push_size (h : D w t gc cc n cnt rv st q rb rg its) {c : Nat} (hc : c < n) (size : Nat) (id : Int) (hs : size = 0 ∨ 65535 < size) :
    Calls Try.prog 21 #[.pointer (some ⟨t, 0, none⟩), .int .i64 c, .int .u64 size, .int .i64 id] w fun e w' => e = .returned (.int .i64 12) ∧ w = w' := by
  have hH := Lib.hid (has_in h hc)
  clear h hc
  rcases hs with rfl | hs
  · go_enter Try.func21, Try.ntmps21
    go_wp2_with fail
    refine (hH.out).mono ?_
    rintro e w' ⟨rfl, rfl⟩
    go_wp2_with fail
    go_ret
    exact ⟨rfl, rfl⟩
  · have d0 : ((size : Int) == 0) = false := by simp; omega
    have d0' : (size == 0) = false := by simp; omega
    have d1 : decide ((size : Int) > 65535) = true := decide_eq_true (by omega)
    have d2 : decide (65535 < size) = true := decide_eq_true hs
    go_enter Try.func21, Try.ntmps21
    go_wp2_with fail
    refine (hH.out).mono ?_
    rintro e w' ⟨rfl, rfl⟩
    go_wp2_with fail
    go_ret
    exact ⟨rfl, rfl⟩
theorem push_full (h : D w t gc cc n cnt rv st q rb rg its) {c : Nat} (hc : c < n) (size : Nat) (id : Int) (h1 : 1 ≤ size) (h2 : size ≤ 65535) (hl : (its c).length = 1024) :
    Calls Try.prog 21 #[.pointer (some ⟨t, 0, none⟩), .int .i64 c, .int .u64 size, .int .i64 id] w fun e w' => e = .returned (.int .i64 20) ∧ Upd Nowhere w w' := by
  obtain ⟨c0, c1, c2, c3, z0, z1, z2, z3⟩ := cells4 h.blk
  have hH := Lib.hid (has_in h hc)
  have hrb := h.rb_ hc
  have i1 : (c : Int) < n := by omega
  obtain ⟨fr, len, hP⟩ := h.ring c hc
  rw [elN_map] at hP
  have HP := Lib.hid (PairD.put_full w (rb c) (rg c) 1024 fr len _ ((size : Int), id) hP (by simpa using hl))
  have d0 : ((size : Int) == 0) = false := by simp; omega
  have d0' : (size == 0) = false := by simp; omega
  have d1 : decide ((size : Int) > 65535) = false := decide_eq_false (by omega)
  have d2 : decide (65535 < size) = false := decide_eq_false (by omega)
  clear h hP hl
  go_enter Try.func21, Try.ntmps21
  go_wp2_with fail
  refine (hH.out).mono ?_
  rintro e w' ⟨rfl, rfl⟩
  go_wp2_with fail
  refine (HP.out).mono ?_
  rintro e w' ⟨rfl, u⟩
  go_wp2_with fail
  go_ret
  exact ⟨rfl, u⟩
theorem push_ok (h : D w t gc cc n cnt rv st q rb rg its) {c : Nat} (hc : c < n) (size : Nat) (id : Int) (h1 : 1 ≤ size) (h2 : size ≤ 65535) (hl : (its c).length < 1024) (hcnt : cnt ≤ 65536) (hrl : st.row.length ≤ 64) :
    Calls Try.prog 21 #[.pointer (some ⟨t, 0, none⟩), .int .i64 c, .int .u64 size, .int .i64 id] w fun e w' => e = .returned (.int .i64 0) ∧ ∃ rv' rg', Turned w w' t gc cc n (cnt + 1) rv' (came st its c) q rb rg' (upd its c (its c ++ [(size, id)])) rv rg := by
  obtain ⟨i0, hi, hz0, hz1, hz2⟩ := info_parts infoI
  obtain ⟨c0, c1, c2, c3, z0, z1, z2, z3⟩ := cells4 h.blk
  have hH := Lib.hid (has_in h hc)
  have hrb := h.rb_ hc
  have i1 : (c : Int) < n := by omega
  obtain ⟨fr, len, hP⟩ := h.ring c hc
  rw [elN_map] at hP
  have HP := Lib.hid (PairD.put_room w (rb c) (rg c) 1024 fr len _ ((size : Int), id) hP (by simpa using hl))
  have d0 : ((size : Int) == 0) = false := by simp; omega
  have d0' : (size == 0) = false := by simp; omega
  have d1 : decide ((size : Int) > 65535) = false := decide_eq_false (by omega)
  have d2 : decide (65535 < size) = false := decide_eq_false (by omega)
  have e1 : IntKind.i64.wrap ((cnt : Int) + 1) = ((cnt + 1 : Nat) : Int) := by rw [IntKind.wrap_i64]; omega
  have H0 := Lib.hid h
  clear h hP
  go_enter Try.func21, Try.ntmps21
  go_wp2_with fail
  refine (hH.out).mono ?_
  rintro e w' ⟨rfl, rfl⟩
  go_wp2_with fail
  refine (HP.out).mono ?_
  rintro e w2 ⟨rfl, ht⟩
  have e2 : (((its c).map fun x => ((x.1 : Int), x.2)) ++ [((size : Int), id)]).map el = (its c ++ [(size, id)]).map elN := by rw [elN_map]; simp
  rw [e2] at ht
  obtain ⟨g', hD, hnew, hu⟩ := H0.out.turn hc ht
  rw [map_upd] at hD
  have H2 := Lib.hid hD
  have HN2 := Lib.hid hnew
  have HU2 := Lib.hid hu
  obtain ⟨fr2, len2, hP2⟩ := hD.ring c hc
  simp only [upd_at] at hP2
  have r2 := hP2.c2
  rw [List.length_map] at r2
  have hlen : (its c ++ [(size, id)]).length = (its c).length + 1 := by simp
  rw [hlen] at r2
  clear c0 c1 c2 c3 z0 z1 z2 z3 hD hnew hu ht e2 hlen HP hP2 hrb H0
  obtain ⟨c0, c1, c2, c3, z0, z1, z2, z3⟩ := cells4 H2.out.blk
  by_cases he : its c = []
  · have HE := Lib.hid he
    rw [he] at r2
    clear he
    have hln := H2.out.lane
    have HL2 := Lib.hid hln
    obtain ⟨adv, cv, hv⟩ := hln.form
    subst hv
    clear hln
    go_wp2_with (first
      | (go_at_call 55; refine (PairD.len_any _ _ _ r2).mono ?_; rintro e w' ⟨rfl, rfl⟩)
      | (at_builtin; refine wpList_lane rfl _ _ 39 rfl TI i0 (.int .i64 0) Try.underlying39 hi hz0 hz1 hz2 rfl _ st.row rfl (HL2.out.upd ((Upd.refl Nowhere _).alloc _) (fun _ _ h => h)) w2.heap.size 1 c rfl (new_cells _ #[_] _ 0 _ rfl) (by omega) ?_; intro ad4 c4 w4 hl4 hu4 hn4; have HL4 := Lib.hid hl4; have hu5 : Upd (fun k => (Value.slice adv st.row.length cv).ownBlock = some k) w2 w4 := ((Upd.refl _ w2).alloc _).trans hu4 (fun _ _ h => h); have hn5 : ∀ k, (Value.slice ad4 (st.row.length + 1) c4).ownBlock = some k → (Value.slice adv st.row.length cv).ownBlock = some k ∨ w2.heap.size ≤ k := (fun k hk => (hn4 k hk).imp (fun h => h) (fun h => by simp at h; omega)); obtain ⟨_, hb4, hset⟩ := H2.out.rowT hu5 (fun k hk => .inl hk); have H4 := Lib.hid (hset hl4 hn5); have HU5 := Lib.hid hu5; have HN5 := Lib.hid hn5; clear hset hu4 hl4 hn4 hu5 hn5; obtain ⟨k0, k1, k2, k3, y0, y1, y2, y3⟩ := cells4 hb4))
    go_ret
    have hsz := HU2.out.size
    have e3 : came st its c = { st with row := st.row ++ [c] } := if_pos HE.out
    refine ⟨rfl, .slice ad4 (st.row.length + 1) c4, upd rg c g', ?_, fun k hk => ?_, ?_⟩
    · rw [e3]; exact H4.out.setN (cnt + 1)
    · rcases hk with hk | hk | hk | hk
      · exact .inl (.inl hk)
      · exact .inl (.inr (.inl hk))
      · rcases HN5.out k hk with h | h
        · exact .inl (.inr (.inr (.inl h)))
        · exact .inr (by omega)
      · exact HN2.out k (.inr (.inr (.inr hk)))
    · exact ((HU2.out.trans HU5.out (fun k hkw hk => .inr (.inr (.inl hk)))).setCell (a := ⟨t, 1, none⟩) (fun _ => .inl rfl) _).setCell (a := ⟨t, 3, none⟩) (fun _ => .inl rfl) _
  · have hpos : 0 < (its c).length := List.length_pos_iff.2 he
    have t0 : ((((its c).length + 1 : Nat) : Int) == 1) = false := by simp; omega
    have t1 : (((its c).length : Int) + 1 == 1) = false := by simp; omega
    have HE := Lib.hid he
    generalize (its c).length = m at *
    clear he
    go_wp2_with (go_at_call 55; refine (PairD.len_any _ _ _ r2).mono ?_; rintro e w' ⟨rfl, rfl⟩)
    go_ret
    have e3 : came st its c = st := if_neg HE.out
    refine ⟨rfl, rv, upd rg c g', ?_, HN2.out, HU2.out.setCell (a := ⟨t, 3, none⟩) (fun _ => .inl rfl) _⟩
    rw [e3]; exact H2.out.setN (cnt + 1)
end
end Go.Proofs.Ytopibbaopglggaa.Drr
