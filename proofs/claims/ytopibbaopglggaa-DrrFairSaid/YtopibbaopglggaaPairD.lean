/- What the functions of a ring of pacemaker/drr.item (two cells each) do, each once. -/
import Derived.Test.YtopibbaopglggaaProg
import Derived.Test.YtopibbaopglggaaPairCore
import Derived.Test.YtopibbaopglggaaMix
import Derived.Lib.Hide
import Derived.Laws.MakeOwn
import Derived.Test.YtopibbaopglggaaCells
import Derived.Test.YtopibbaopglggaaLaws
namespace Go.Proofs.Ytopibbaopglggaa.PairD
open Go.RowKit Go.Proofs BigFrame

abbrev TR : TypeId := 162
abbrev TE : TypeId := 124
/-- A thing's cells. -/
def el (x : Int × Int) : Value × Value := (.int .u64 x.1, Value.int .i64 x.2)
/-- A thing, as a value. -/
abbrev V (x : Int × Int) : Value := .agg #[.int .u64 x.1, Value.int .i64 x.2]
abbrev Z : Value := .agg #[.int .u64 0, Value.int .i64 0]

set_option maxHeartbeats 400000
theorem room_any (b : Nat) (n room : Int) (w : World) (hn : w.cell? ⟨b, 2, none⟩ = some (.int .i64 n)) (hr : w.cell? ⟨b, 3, none⟩ = some (.int .i64 room))
   (h0 : 0 ≤ n) (h1 : n ≤ room) (h2 : room ≤ 65536) :
   Calls Try.prog 82 #[.pointer (some ⟨b, 0, none⟩)] w fun e w' => e = .returned (.int .i64 (room - n)) ∧ ∃ k, w' = w.drewN k := by
  go_enter Try.func82, Try.ntmps82
  go_wp2
  go_quiet (fail)
  go_wp2
  go_ret
  exact ⟨rfl, _, rfl⟩
theorem room_nil (w : World) :
   Calls Try.prog 82 #[.pointer none] w fun e w' => e = .returned (.int .i64 0) ∧ w = w' := by
  go_enter Try.func82, Try.ntmps82
  go_wp2
  go_ret
  exact ⟨rfl, rfl⟩
theorem slot_any (b : Nat) (fr i j : Nat) (la) (len cap : Nat) (w : World) (hr : w.cell? ⟨b, 0, none⟩ = some (.slice la len cap)) (hn : w.cell? ⟨b, 1, none⟩ = some (.int .i64 fr))
   (h2 : fr ≤ 65536) (h3 : i ≤ 65536) (h4 : 0 < len) (h5 : len ≤ 65536) (hj : Hid ((fr + i) % len = j)) :
   Calls Try.prog 84 #[.pointer (some ⟨b, 0, none⟩), .int .i64 i] w fun e w' => e = .returned (.int .i64 j) ∧ ∃ k, w' = w.drewN k := by
  go_enter Try.func84, Try.ntmps84
  go_wp2
  go_quiet (fail)
  go_wp2
  go_ret
  exact ⟨ret_int (by rw [← hj.out]; rfl), _, rfl⟩
theorem slot_one (b : Nat) (fr j : Nat) (la) (len cap : Nat) (w : World) (hr : w.cell? ⟨b, 0, none⟩ = some (.slice la len cap)) (hn : w.cell? ⟨b, 1, none⟩ = some (.int .i64 fr))
   (h2 : fr ≤ 65536) (h4 : 0 < len) (h5 : len ≤ 65536) (hj : Hid ((fr + 1) % len = j)) :
   Calls Try.prog 84 #[.pointer (some ⟨b, 0, none⟩), .int .i64 1] w fun e w' => e = .returned (.int .i64 j) ∧ ∃ k, w' = w.drewN k :=
  slot_any b fr 1 j la len cap w hr hn h2 (by omega) h4 h5 hj
theorem len_any (b : Nat) (n : Int) (w : World) (hn : w.cell? ⟨b, 2, none⟩ = some (.int .i64 n)) :
   Calls Try.prog 55 #[.pointer (some ⟨b, 0, none⟩)] w fun e w' => e = .returned (.int .i64 n) ∧ w = w' := by
  go_enter Try.func55, Try.ntmps55
  go_wp2
  go_ret
  exact ⟨rfl, rfl⟩
theorem len_nil (w : World) :
   Calls Try.prog 55 #[.pointer none] w fun e w' => e = .returned (.int .i64 0) ∧ w = w' := by
  go_enter Try.func55, Try.ntmps55
  go_wp2
  go_ret
  exact ⟨rfl, rfl⟩
/-- At a place where there is something. -/
theorem at_in (b g : Nat) (fr i len n j : Nat) (x : Int × Int) (w : World) (hi : i < n) (hl : n ≤ len) (h3 : len ≤ 65536) (hf : fr < len)
   (h0 : w.cell? ⟨b, 0, none⟩ = some (.slice (some ⟨g, 0, none⟩) len len)) (h1 : w.cell? ⟨b, 1, none⟩ = some (.int .i64 fr)) (h2 : w.cell? ⟨b, 2, none⟩ = some (.int .i64 n))
   (hj : Hid ((fr + i) % len = j)) (hx : w.cell? ⟨g, j * 2, none⟩ = some (.int .u64 x.1)) (hx1 : w.cell? ⟨g, j * 2 + 1, none⟩ = some (Value.int .i64 x.2)) :
   Calls Try.prog 85 #[.pointer (some ⟨b, 0, none⟩), .int .i64 i] w fun e w' => e = .returned (.tuple #[V x, .bool true]) ∧ Upd Nowhere w w' := by
  have hm : j < len := by rw [← hj.out]; exact Nat.mod_lt _ (by omega)
  have hd : decide ((i : Int) < 0) = false := by simp
  have he : decide (n ≤ i) = false := by simp; omega
  obtain ⟨x0, x1⟩ := x
  simp only at hx hx1
  have hB2 : Blk ((w.alloc (.cells #[.int .u64 0, Value.int .i64 0] TE)).alloc (.cells #[.int .u64 0, Value.int .i64 0] TE)) w.heap.size #[.int .u64 0, Value.int .i64 0] TE := (Blk.new _ _ _).alloc _
  have hN2 : Blk ((w.alloc (.cells #[.int .u64 0, Value.int .i64 0] TE)).alloc (.cells #[.int .u64 0, Value.int .i64 0] TE)) (w.heap.size + 1) #[.int .u64 0, Value.int .i64 0] TE := Blk.new2 _ _ _ _
  have hU2 : Upd Nowhere w ((w.alloc (.cells #[.int .u64 0, Value.int .i64 0] TE)).alloc (.cells #[.int .u64 0, Value.int .i64 0] TE)) := ((Upd.refl _ _).alloc _).alloc _
  have k0 := cell_old hU2 h0
  have k1 := cell_old hU2 h1
  have k2 := cell_old hU2 h2
  have kx := cell_old hU2 hx
  have kx1 := cell_old hU2 hx1
  clear h0 h1 h2 hx hx1
  go_enter Try.func85, Try.ntmps85
  go_wp2_with fail
  generalize (w.alloc (.cells #[.int .u64 0, Value.int .i64 0] TE)).alloc (.cells #[.int .u64 0, Value.int .i64 0] TE) = w2 at *
  obtain ⟨c0, c1, z0, z1⟩ := cells2 hB2
  refine (len_any _ _ _ k2).mono ?_
  rintro e w' ⟨rfl, rfl⟩
  go_wp2_with fail
  refine wp_region_tail 9 (by kernel_rfl) (by kernel_rfl) ?_
  simp only [List.take_succ_cons, List.take_zero, List.drop_succ_cons, List.drop_zero]
  repeat (go_big_quiet_step ((go_at_call 84; refine Calls.quiet_of (slot_any b fr i j _ _ _ _ (by exact k0) (by exact k1) (by omega) (by omega) (by omega) (by omega) hj))))
  refine wpQuiet_nil ?_
  rintro _ ⟨nq, rfl⟩
  go_wp2
  refine Stage.out ?_
  go_wp2
  exact bodyPost_ret (v := .tuple #[.agg #[.int .u64 x0, Value.int .i64 x1], .bool true]) (by simp [results, Try.results85, go_sem, c0, c1]) rfl ⟨rfl, (by repeat (first | with_reducible exact hU2 | with_reducible refine Upd.drewN ?_ _ | with_reducible refine Upd.drew ?_ | with_reducible refine Upd.setNew ?_ (Nat.le_refl _) _))⟩
theorem at_out (b : Nat) (i : Int) (n : Nat) (w : World) (hi : i < 0 ∨ (n : Int) ≤ i)
   (h2 : w.cell? ⟨b, 2, none⟩ = some (.int .i64 n)) :
   Calls Try.prog 85 #[.pointer (some ⟨b, 0, none⟩), .int .i64 i] w fun e w' => e = .returned (.tuple #[Z, .bool false]) ∧ Upd Nowhere w w' := by
  have hB2 : Blk ((w.alloc (.cells #[.int .u64 0, Value.int .i64 0] TE)).alloc (.cells #[.int .u64 0, Value.int .i64 0] TE)) w.heap.size #[.int .u64 0, Value.int .i64 0] TE := (Blk.new _ _ _).alloc _
  have hN2 : Blk ((w.alloc (.cells #[.int .u64 0, Value.int .i64 0] TE)).alloc (.cells #[.int .u64 0, Value.int .i64 0] TE)) (w.heap.size + 1) #[.int .u64 0, Value.int .i64 0] TE := Blk.new2 _ _ _ _
  have hU2 : Upd Nowhere w ((w.alloc (.cells #[.int .u64 0, Value.int .i64 0] TE)).alloc (.cells #[.int .u64 0, Value.int .i64 0] TE)) := ((Upd.refl _ _).alloc _).alloc _
  have k2 := cell_old hU2 h2
  clear h2
  by_cases hd : i < 0
  · have hd1 : decide (i < 0) = true := decide_eq_true hd
    go_enter Try.func85, Try.ntmps85
    go_wp2_with fail
    generalize (w.alloc (.cells #[.int .u64 0, Value.int .i64 0] TE)).alloc (.cells #[.int .u64 0, Value.int .i64 0] TE) = w2 at *
    obtain ⟨c0, c1, z0, z1⟩ := cells2 hB2
    obtain ⟨n0, n1, y0, y1⟩ := cells2 hN2
    exact bodyPost_ret (v := .tuple #[Z, .bool false]) (by simp [results, Try.results85, go_sem, c0, c1]) rfl ⟨rfl, (by repeat (first | with_reducible exact hU2 | with_reducible refine Upd.drewN ?_ _ | with_reducible refine Upd.drew ?_ | with_reducible refine Upd.setNew ?_ (Nat.le_refl _) _))⟩
  · have hd' : decide (i < 0) = false := by simp; omega
    have he : decide (↑n ≤ i) = true := by simp; omega
    go_enter Try.func85, Try.ntmps85
    go_wp2_with fail
    generalize (w.alloc (.cells #[.int .u64 0, Value.int .i64 0] TE)).alloc (.cells #[.int .u64 0, Value.int .i64 0] TE) = w2 at *
    obtain ⟨c0, c1, z0, z1⟩ := cells2 hB2
    obtain ⟨n0, n1, y0, y1⟩ := cells2 hN2
    refine (len_any _ _ _ k2).mono ?_
    rintro e w' ⟨rfl, rfl⟩
    go_wp2_with fail
    exact bodyPost_ret (v := .tuple #[Z, .bool false]) (by simp [results, Try.results85, go_sem, c0, c1]) rfl ⟨rfl, (by repeat (first | with_reducible exact hU2 | with_reducible refine Upd.drewN ?_ _ | with_reducible refine Upd.drew ?_ | with_reducible refine Upd.setNew ?_ (Nat.le_refl _) _))⟩
theorem at_nil (i : Int) (w : World) :
   Calls Try.prog 85 #[.pointer none, .int .i64 i] w fun e w' => e = .returned (.tuple #[Z, .bool false]) ∧ Upd Nowhere w w' := by
  have hB2 : Blk ((w.alloc (.cells #[.int .u64 0, Value.int .i64 0] TE)).alloc (.cells #[.int .u64 0, Value.int .i64 0] TE)) w.heap.size #[.int .u64 0, Value.int .i64 0] TE := (Blk.new _ _ _).alloc _
  have hN2 : Blk ((w.alloc (.cells #[.int .u64 0, Value.int .i64 0] TE)).alloc (.cells #[.int .u64 0, Value.int .i64 0] TE)) (w.heap.size + 1) #[.int .u64 0, Value.int .i64 0] TE := Blk.new2 _ _ _ _
  have hU2 : Upd Nowhere w ((w.alloc (.cells #[.int .u64 0, Value.int .i64 0] TE)).alloc (.cells #[.int .u64 0, Value.int .i64 0] TE)) := ((Upd.refl _ _).alloc _).alloc _
  by_cases hd : i < 0
  · have hd1 : decide (i < 0) = true := decide_eq_true hd
    go_enter Try.func85, Try.ntmps85
    go_wp2_with fail
    generalize (w.alloc (.cells #[.int .u64 0, Value.int .i64 0] TE)).alloc (.cells #[.int .u64 0, Value.int .i64 0] TE) = w2 at *
    obtain ⟨c0, c1, z0, z1⟩ := cells2 hB2
    obtain ⟨n0, n1, y0, y1⟩ := cells2 hN2
    exact bodyPost_ret (v := .tuple #[Z, .bool false]) (by simp [results, Try.results85, go_sem, c0, c1]) rfl ⟨rfl, (by repeat (first | with_reducible exact hU2 | with_reducible refine Upd.drewN ?_ _ | with_reducible refine Upd.drew ?_ | with_reducible refine Upd.setNew ?_ (Nat.le_refl _) _))⟩
  · have hd' : decide (i < 0) = false := by simp; omega
    have he : decide (0 ≤ i) = true := by simp; omega
    go_enter Try.func85, Try.ntmps85
    go_wp2_with fail
    generalize (w.alloc (.cells #[.int .u64 0, Value.int .i64 0] TE)).alloc (.cells #[.int .u64 0, Value.int .i64 0] TE) = w2 at *
    obtain ⟨c0, c1, z0, z1⟩ := cells2 hB2
    obtain ⟨n0, n1, y0, y1⟩ := cells2 hN2
    refine (len_nil _).mono ?_
    rintro e w' ⟨rfl, rfl⟩
    go_wp2_with fail
    exact bodyPost_ret (v := .tuple #[Z, .bool false]) (by simp [results, Try.results85, go_sem, c0, c1]) rfl ⟨rfl, (by repeat (first | with_reducible exact hU2 | with_reducible refine Upd.drewN ?_ _ | with_reducible refine Upd.drew ?_ | with_reducible refine Upd.setNew ?_ (Nat.le_refl _) _))⟩
/-- At, of a ring: what its list says. -/
def atOf (xs : List (Value × Value)) (i : Int) : Value := if 0 ≤ i then match xs[i.toNat]? with | some v => .tuple #[.agg #[v.1, v.2], .bool true] | none => .tuple #[Z, .bool false] else .tuple #[Z, .bool false]
theorem at_any (w : World) (b : Nat) (g : Option Nat) (room fr len : Nat) (xs : List (Int × Int)) (i : Int) (hi : i ≤ 9223372036854775807) (h : PairIn TR TE w b g room (xs.map el) fr len) :
   Calls Try.prog 85 #[.pointer (some ⟨b, 0, none⟩), .int .i64 i] w fun e w' => e = .returned (atOf (xs.map el) i) ∧ Upd Nowhere w w' := by
  rcases Int.lt_or_le i 0 with hneg | hpos
  · refine (at_out b i _ w (.inl hneg) h.c2).mono ?_
    rintro e w' ⟨rfl, hw⟩
    exact ⟨by simp [atOf, show ¬ (0 ≤ i) by omega], hw⟩
  · obtain ⟨i, rfl⟩ := Int.eq_ofNat_of_zero_le hpos
    rcases Nat.lt_or_ge i xs.length with hlt | hge
    · have hx : (xs.map el)[i]? = some (el xs[i]) := by simp [hlt]
      obtain ⟨k, hk, hc, hc1⟩ := h.atI hx
      subst hk
      obtain ⟨_, hf, _⟩ := h.arr k rfl
      have hlen : (xs.map el).length = xs.length := by simp
      have h2 := h.c2
      have hl1 := h.le1
      rw [hlen] at h2 hl1
      have := h.le2
      have := h.le3
      refine (at_in b k fr i len xs.length _ xs[i] w hlt hl1 (by omega) hf h.c0 h.c1 h2 rfl hc hc1).mono ?_
      rintro e w' ⟨rfl, hw⟩
      exact ⟨by simp [atOf, hlt, el], hw⟩
    · refine (at_out b i xs.length w (.inr (by omega)) (by simpa using h.c2)).mono ?_
      rintro e w' ⟨rfl, hw⟩
      exact ⟨by simp [atOf, hge], hw⟩
theorem head_any (w : World) (b : Nat) (g : Option Nat) (room fr len : Nat) (xs : List (Int × Int)) (h : PairIn TR TE w b g room (xs.map el) fr len) :
   Calls Try.prog 57 #[.pointer (some ⟨b, 0, none⟩)] w fun e w' => e = .returned (atOf (xs.map el) 0) ∧ Upd Nowhere w w' := by
  have ha := fun u (hu : Upd Nowhere w u) => Lib.hid (at_any u b g room fr len xs 0 (by omega) (h.kept hu (fun _ _ h => h)))
  clear h
  cases xs with
  | nil =>
    have e1 : atOf ([].map el) 0 = .tuple #[Z, .bool false] := rfl
    simp only [e1] at ha ⊢
    have hB2 : Blk (w.alloc (.cells #[.int .u64 0, Value.int .i64 0] TE)) w.heap.size #[.int .u64 0, Value.int .i64 0] TE := Blk.new _ _ _
    have hU1 : Upd Nowhere w (w.alloc (.cells #[.int .u64 0, Value.int .i64 0] TE)) := (Upd.refl _ _).alloc _
    go_enter Try.func57, Try.ntmps57
    go_wp2_with fail
    refine ((ha _ hU1).out).mono ?_
    rintro e w3 ⟨rfl, u3⟩
    have hB3 := hB2.kept u3 id
    have hU2 := hU1.trans u3 (fun _ _ h => h)
    clear hB2 hU1 u3
    obtain ⟨c0, c1, z0, z1⟩ := cells2 hB3
    go_wp2_with fail
    exact bodyPost_ret (v := .tuple #[Z, .bool false]) (by simp [results, Try.results57, go_sem, c0, c1]) rfl ⟨rfl, (by repeat (first | with_reducible exact hU2 | with_reducible refine Upd.drewN ?_ _ | with_reducible refine Upd.drew ?_ | with_reducible refine Upd.setNew ?_ (Nat.le_refl _) _))⟩
  | cons x r =>
    obtain ⟨x0, x1⟩ := x
    have e1 : atOf (((x0, x1) :: r).map el) 0 = .tuple #[.agg #[.int .u64 x0, Value.int .i64 x1], .bool true] := rfl
    simp only [e1] at ha ⊢
    have hB2 : Blk (w.alloc (.cells #[.int .u64 0, Value.int .i64 0] TE)) w.heap.size #[.int .u64 0, Value.int .i64 0] TE := Blk.new _ _ _
    have hU1 : Upd Nowhere w (w.alloc (.cells #[.int .u64 0, Value.int .i64 0] TE)) := (Upd.refl _ _).alloc _
    go_enter Try.func57, Try.ntmps57
    go_wp2_with fail
    refine ((ha _ hU1).out).mono ?_
    rintro e w3 ⟨rfl, u3⟩
    have hB3 := hB2.kept u3 id
    have hU2 := hU1.trans u3 (fun _ _ h => h)
    clear hB2 hU1 u3
    obtain ⟨c0, c1, z0, z1⟩ := cells2 hB3
    go_wp2_with fail
    exact bodyPost_ret (v := .tuple #[.agg #[.int .u64 x0, Value.int .i64 x1], .bool true]) (by simp [results, Try.results57, go_sem, c0, c1]) rfl ⟨rfl, (by repeat (first | with_reducible exact hU2 | with_reducible refine Upd.drewN ?_ _ | with_reducible refine Upd.drew ?_ | with_reducible refine Upd.setNew ?_ (Nat.le_refl _) _))⟩
theorem head_nil (w : World) :
   Calls Try.prog 57 #[.pointer none] w fun e w' => e = .returned (.tuple #[Z, .bool false]) ∧ Upd Nowhere w w' := by
  have ha := fun u => Lib.hid (at_nil 0 u)
  have hB2 : Blk (w.alloc (.cells #[.int .u64 0, Value.int .i64 0] TE)) w.heap.size #[.int .u64 0, Value.int .i64 0] TE := Blk.new _ _ _
  have hU1 : Upd Nowhere w (w.alloc (.cells #[.int .u64 0, Value.int .i64 0] TE)) := (Upd.refl _ _).alloc _
  go_enter Try.func57, Try.ntmps57
  go_wp2_with fail
  refine ((ha _).out).mono ?_
  rintro e w3 ⟨rfl, u3⟩
  have hB3 := hB2.kept u3 id
  have hU2 := hU1.trans u3 (fun _ _ h => h)
  clear hB2 hU1 u3
  obtain ⟨c0, c1, z0, z1⟩ := cells2 hB3
  go_wp2_with fail
  exact bodyPost_ret (v := .tuple #[Z, .bool false]) (by simp [results, Try.results57, go_sem, c0, c1]) rfl ⟨rfl, (by repeat (first | with_reducible exact hU2 | with_reducible refine Upd.drewN ?_ _ | with_reducible refine Upd.drew ?_ | with_reducible refine Upd.setNew ?_ (Nat.le_refl _) _))⟩
end Go.Proofs.Ytopibbaopglggaa.PairD
