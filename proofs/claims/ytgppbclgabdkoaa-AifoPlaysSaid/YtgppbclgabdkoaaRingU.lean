/- What the functions of a ring of uint64 do, each once. -/
import Derived.Test.YtgppbclgabdkoaaProg
import Derived.Test.YtgppbclgabdkoaaRingCore
import Derived.Test.YtgppbclgabdkoaaMix
import Derived.Lib.Hide
import Derived.Laws.MakeOwn
namespace Go.Proofs.Ytgppbclgabdkoaa.RingU
open Go.RowKit Go.Proofs BigFrame

abbrev TR : TypeId := 54
abbrev TE : TypeId := 22

set_option maxHeartbeats 400000
theorem room_any (b : Nat) (n room : Int) (w : World) (hn : w.cell? ⟨b, 2, none⟩ = some (.int .i64 n)) (hr : w.cell? ⟨b, 3, none⟩ = some (.int .i64 room))
   (h0 : 0 ≤ n) (h1 : n ≤ room) (h2 : room ≤ 65536) :
   Calls Try.prog 19 #[.pointer (some ⟨b, 0, none⟩)] w fun e w' => e = .returned (.int .i64 (room - n)) ∧ ∃ k, w' = w.drewN k := by
  go_enter Try.func19, Try.ntmps19
  go_wp2
  go_quiet (fail)
  go_wp2
  go_ret
  exact ⟨rfl, _, rfl⟩
theorem room_nil (w : World) :
   Calls Try.prog 19 #[.pointer none] w fun e w' => e = .returned (.int .i64 0) ∧ w = w' := by
  go_enter Try.func19, Try.ntmps19
  go_wp2
  go_ret
  exact ⟨rfl, rfl⟩
theorem slot_any (b : Nat) (fr i j : Nat) (la) (len cap : Nat) (w : World) (hr : w.cell? ⟨b, 0, none⟩ = some (.slice la len cap)) (hn : w.cell? ⟨b, 1, none⟩ = some (.int .i64 fr))
   (h2 : fr ≤ 65536) (h3 : i ≤ 65536) (h4 : 0 < len) (h5 : len ≤ 65536) (hj : Hid ((fr + i) % len = j)) :
   Calls Try.prog 28 #[.pointer (some ⟨b, 0, none⟩), .int .i64 i] w fun e w' => e = .returned (.int .i64 j) ∧ ∃ k, w' = w.drewN k := by
  go_enter Try.func28, Try.ntmps28
  go_wp2
  go_quiet (fail)
  go_wp2
  go_ret
  exact ⟨ret_int (by rw [← hj.out]; rfl), _, rfl⟩
theorem slot_one (b : Nat) (fr j : Nat) (la) (len cap : Nat) (w : World) (hr : w.cell? ⟨b, 0, none⟩ = some (.slice la len cap)) (hn : w.cell? ⟨b, 1, none⟩ = some (.int .i64 fr))
   (h2 : fr ≤ 65536) (h4 : 0 < len) (h5 : len ≤ 65536) (hj : Hid ((fr + 1) % len = j)) :
   Calls Try.prog 28 #[.pointer (some ⟨b, 0, none⟩), .int .i64 1] w fun e w' => e = .returned (.int .i64 j) ∧ ∃ k, w' = w.drewN k :=
  slot_any b fr 1 j la len cap w hr hn h2 (by omega) h4 h5 hj
theorem len_any (b : Nat) (n : Int) (w : World) (hn : w.cell? ⟨b, 2, none⟩ = some (.int .i64 n)) :
   Calls Try.prog 31 #[.pointer (some ⟨b, 0, none⟩)] w fun e w' => e = .returned (.int .i64 n) ∧ w = w' := by
  go_enter Try.func31, Try.ntmps31
  go_wp2
  go_ret
  exact ⟨rfl, rfl⟩
theorem len_nil (w : World) :
   Calls Try.prog 31 #[.pointer none] w fun e w' => e = .returned (.int .i64 0) ∧ w = w' := by
  go_enter Try.func31, Try.ntmps31
  go_wp2
  go_ret
  exact ⟨rfl, rfl⟩
/-- At a place where there is something. -/
theorem at_in (b g : Nat) (fr i len n j : Nat) (x : Int) (w : World) (hi : i < n) (hl : n ≤ len) (h3 : len ≤ 65536) (hf : fr < len)
   (h0 : w.cell? ⟨b, 0, none⟩ = some (.slice (some ⟨g, 0, none⟩) len len)) (h1 : w.cell? ⟨b, 1, none⟩ = some (.int .i64 fr)) (h2 : w.cell? ⟨b, 2, none⟩ = some (.int .i64 n))
   (hj : Hid ((fr + i) % len = j)) (hx : w.cell? ⟨g, j, none⟩ = some (Value.int .u64 x)) :
   Calls Try.prog 33 #[.pointer (some ⟨b, 0, none⟩), .int .i64 i] w fun e w' => e = .returned (.tuple #[Value.int .u64 x, .bool true]) ∧ ∃ k, w' = w.drewN k := by
  have hm : j < len := by rw [← hj.out]; exact Nat.mod_lt _ (by omega)
  have hd : decide ((i : Int) < 0) = false := by simp
  have he : decide (n ≤ i) = false := by simp; omega
  go_enter Try.func33, Try.ntmps33
  go_wp2_with (go_at_call 31; refine (len_any _ _ _ h2).mono ?_; rintro e w' ⟨rfl, rfl⟩)
  go_quiet ((go_at_call 28; refine Calls.quiet_of (slot_any b fr i j _ _ _ _ h0 h1 (by omega) (by omega) (by omega) (by omega) hj)))
  go_wp2
  go_ret2
  exact ⟨rfl, _, rfl⟩
theorem at_out (b : Nat) (i : Int) (n : Nat) (w : World) (hi : i < 0 ∨ (n : Int) ≤ i)
   (h2 : w.cell? ⟨b, 2, none⟩ = some (.int .i64 n)) :
   Calls Try.prog 33 #[.pointer (some ⟨b, 0, none⟩), .int .i64 i] w fun e w' => e = .returned (.tuple #[Value.int .u64 0, .bool false]) ∧ w = w' := by
  by_cases hd : i < 0
  · go_enter Try.func33, Try.ntmps33
    go_wp2_with (go_at_call 31; refine (len_any _ _ _ h2).mono ?_; rintro e w' ⟨rfl, rfl⟩)
    go_ret2
    exact ⟨rfl, rfl⟩
  · have hd' : decide (i < 0) = false := by simp; omega
    have he : decide (↑n ≤ i) = true := by simp; omega
    go_enter Try.func33, Try.ntmps33
    go_wp2_with (go_at_call 31; refine (len_any _ _ _ h2).mono ?_; rintro e w' ⟨rfl, rfl⟩)
    go_ret2
    exact ⟨rfl, rfl⟩
theorem at_nil (i : Int) (w : World) :
   Calls Try.prog 33 #[.pointer none, .int .i64 i] w fun e w' => e = .returned (.tuple #[Value.int .u64 0, .bool false]) ∧ w = w' := by
  by_cases hd : i < 0
  · go_enter Try.func33, Try.ntmps33
    go_wp2
    go_ret2
    exact ⟨rfl, rfl⟩
  · have hd' : decide (i < 0) = false := by simp; omega
    have he : decide (0 ≤ i) = true := by simp; omega
    go_enter Try.func33, Try.ntmps33
    go_wp2
    go_ret2
    exact ⟨rfl, rfl⟩
/-- At, of a ring: what its list says. -/
def atOf (xs : List Value) (i : Int) : Value := if 0 ≤ i then match xs[i.toNat]? with | some v => .tuple #[v, .bool true] | none => .tuple #[Value.int .u64 0, .bool false] else .tuple #[Value.int .u64 0, .bool false]
theorem at_any (w : World) (b : Nat) (g : Option Nat) (room fr len : Nat) (xs : List Int) (i : Int) (hi : i ≤ 9223372036854775807) (h : RingIn TR TE w b g room (xs.map (Value.int .u64 ·)) fr len) :
   Calls Try.prog 33 #[.pointer (some ⟨b, 0, none⟩), .int .i64 i] w fun e w' => e = .returned (atOf (xs.map (Value.int .u64 ·)) i) ∧ ∃ k, w' = w.drewN k := by
  rcases Int.lt_or_le i 0 with hneg | hpos
  · refine (at_out b i _ w (.inl hneg) h.c2).mono ?_
    rintro e w' ⟨rfl, rfl⟩
    exact ⟨by simp [atOf, show ¬ (0 ≤ i) by omega], 0, rfl⟩
  · obtain ⟨i, rfl⟩ := Int.eq_ofNat_of_zero_le hpos
    rcases Nat.lt_or_ge i xs.length with hlt | hge
    · have hx : (xs.map (Value.int .u64 ·))[i]? = some (Value.int .u64 xs[i]) := by simp [hlt]
      obtain ⟨k, hk, hc⟩ := h.atI hx
      subst hk
      obtain ⟨_, hf, _⟩ := h.arr k rfl
      have hlen : (xs.map (Value.int .u64 ·)).length = xs.length := by simp
      have h2 := h.c2
      have hl1 := h.le1
      rw [hlen] at h2 hl1
      have := h.le2
      have := h.le3
      refine (at_in b k fr i len xs.length _ xs[i] w hlt hl1 (by omega) hf h.c0 h.c1 h2 rfl hc).mono ?_
      rintro e w' ⟨rfl, hw⟩
      exact ⟨by simp [atOf, hlt], hw⟩
    · refine (at_out b i xs.length w (.inr (by omega)) (by simpa using h.c2)).mono ?_
      rintro e w' ⟨rfl, rfl⟩
      exact ⟨by simp [atOf, hge], 0, rfl⟩
theorem head_any (w : World) (b : Nat) (g : Option Nat) (room fr len : Nat) (xs : List Int) (h : RingIn TR TE w b g room (xs.map (Value.int .u64 ·)) fr len) :
   Calls Try.prog 27 #[.pointer (some ⟨b, 0, none⟩)] w fun e w' => e = .returned (atOf (xs.map (Value.int .u64 ·)) 0) ∧ ∃ k, w' = w.drewN k := by
  have ha := Lib.hid (at_any w b g room fr len xs 0 (by omega) h)
  cases xs with
  | nil =>
    have e1 : atOf ([].map (Value.int .u64 ·)) 0 = .tuple #[Value.int .u64 0, .bool false] := rfl
    rw [e1] at ha ⊢
    go_enter Try.func27, Try.ntmps27
    go_wp2_with (go_at_call 33; refine ha.out.mono ?_; rintro e w' ⟨rfl, nq, rfl⟩)
    go_ret2
    exact ⟨rfl, _, rfl⟩
  | cons x r =>
    have e1 : atOf ((x :: r).map (Value.int .u64 ·)) 0 = .tuple #[Value.int .u64 x, .bool true] := rfl
    rw [e1] at ha ⊢
    go_enter Try.func27, Try.ntmps27
    go_wp2_with (go_at_call 33; refine ha.out.mono ?_; rintro e w' ⟨rfl, nq, rfl⟩)
    go_ret2
    exact ⟨rfl, _, rfl⟩
theorem head_nil (w : World) :
   Calls Try.prog 27 #[.pointer none] w fun e w' => e = .returned (.tuple #[Value.int .u64 0, .bool false]) ∧ w = w' := by
  go_enter Try.func27, Try.ntmps27
  go_wp2_with (go_at_call 33; refine (at_nil _ _).mono ?_; rintro e w' ⟨rfl, rfl⟩)
  go_ret2
  exact ⟨rfl, rfl⟩
end Go.Proofs.Ytgppbclgabdkoaa.RingU
