/- aifo's gate: New, Len, Take, Window, May. -/
import Derived.Test.YtgppbclgabdkoaaRemove
import Derived.Test.YtgppbclgabdkoaaInsert2
import Derived.Test.YtgppbclgabdkoaaGateCore
import Derived.Test.YtgppbclgabdkoaaRingU3
import Derived.Test.YtgppbclgabdkoaaRingU4
import Derived.Test.YtgppbclgabdkoaaCells
namespace Go.Proofs.Ytgppbclgabdkoaa.Aifo
open Go.RowKit Go.Proofs BigFrame
open RingU (TR TE)
abbrev TG : TypeId := 47
set_option maxHeartbeats 4000000
set_option maxRecDepth 1000000
theorem new_ok (w : World) (room most num den : Nat) (h1 : 1 ≤ room) (h2 : room ≤ 4096) (h3 : 1 ≤ most) (h4 : most ≤ 1024) (h5 : num < den) (h6 : den ≤ 65536) :
    Calls Try.prog 6 #[.int .i64 room, .int .i64 most, .int .u64 num, .int .u64 den] w fun e w' => ∃ b, e = .returned (.tuple #[.pointer (some ⟨b, 0, none⟩), .int .i64 0]) ∧ HasG TG TR TE (fun _ => False) w w' b room most 0 num den [] ∧ Upd Nowhere w w' := by
  have d1 : decide ((room : Int) < 1) = false := decide_eq_false (by omega)
  have d2 : decide ((room : Int) > 4096) = false := decide_eq_false (by omega)
  have d2' : decide (4096 < (room : Int)) = false := decide_eq_false (by omega)
  have d3 : decide ((most : Int) < 1) = false := decide_eq_false (by omega)
  have d4 : decide ((most : Int) > 1024) = false := decide_eq_false (by omega)
  have d4' : decide (1024 < (most : Int)) = false := decide_eq_false (by omega)
  have d5 : decide ((den : Int) < 1) = false := decide_eq_false (by omega)
  have d6 : decide ((den : Int) > 65536) = false := decide_eq_false (by omega)
  have d6' : decide (65536 < (den : Int)) = false := decide_eq_false (by omega)
  have d7 : decide ((num : Int) ≥ den) = false := decide_eq_false (by omega)
  have d7' : decide (den ≤ num) = false := decide_eq_false (by omega)
  have HN := fun u => Lib.hid (RingU.new_ok u most h3 (by omega))
  go_enter Try.func6, Try.ntmps6
  go_wp2_with fail
  refine (HN _).out.mono ?_
  rintro e w1 ⟨rfl, hr, hu⟩
  have hsz := hr.lts (.inl rfl)
  go_wp2_with fail
  go_ret2
  refine ⟨_, rfl, ⟨w.heap.size, none, .slice none 0 0, [], ⟨Blk.new _ _ _, hr.kept ((Upd.refl _ _).alloc _) (fun _ _ h => h), .inl ⟨rfl, rfl⟩, List.Perm.refl _, List.Pairwise.nil, h1, h2, Nat.zero_le _, h3, h4, Nat.zero_le _, h5, h6, fun k hk => ?_, fun k hk => by cases hk⟩, fun k hk => ?_, ?_⟩, hu.alloc _⟩
  · rcases hk with rfl | hk
    · omega
    · cases hk
  · refine ⟨?_, id⟩
    rcases hk with rfl | hk | hk
    · exact hu.size
    · rcases hk with rfl | hk
      · exact Nat.le_refl _
      · cases hk
    · cases hk
  · have := hu.size; simp; omega
theorem new_caps (w : World) (room most : Int) (num den : Nat) (h : room < 1 ∨ 4096 < room ∨ most < 1 ∨ 1024 < most) :
    Calls Try.prog 6 #[.int .i64 room, .int .i64 most, .int .u64 num, .int .u64 den] w fun e w' => e = .returned (.tuple #[.pointer none, .int .i64 25]) ∧ w = w' := by
  by_cases c1 : room < 1
  · have d1 : decide (room < 1) = true := decide_eq_true c1
    go_enter Try.func6, Try.ntmps6
    go_wp2_with fail
    go_ret2
    exact ⟨rfl, rfl⟩
  have d1 : decide (room < 1) = false := decide_eq_false c1
  by_cases c2 : 4096 < room
  · have d2 : decide (4096 < room) = true := decide_eq_true c2
    go_enter Try.func6, Try.ntmps6
    go_wp2_with fail
    go_ret2
    exact ⟨rfl, rfl⟩
  have d2 : decide (4096 < room) = false := decide_eq_false c2
  by_cases c3 : most < 1
  · have d3 : decide (most < 1) = true := decide_eq_true c3
    go_enter Try.func6, Try.ntmps6
    go_wp2_with fail
    go_ret2
    exact ⟨rfl, rfl⟩
  have d3 : decide (most < 1) = false := decide_eq_false c3
  have d4 : decide (1024 < most) = true := decide_eq_true (by omega)
  go_enter Try.func6, Try.ntmps6
  go_wp2_with fail
  go_ret2
  exact ⟨rfl, rfl⟩
theorem new_arg (w : World) (room most : Int) (num den : Nat) (h1 : 1 ≤ room) (h2 : room ≤ 4096) (h3 : 1 ≤ most) (h4 : most ≤ 1024) (h : den < 1 ∨ 65536 < den ∨ den ≤ num) :
    Calls Try.prog 6 #[.int .i64 room, .int .i64 most, .int .u64 num, .int .u64 den] w fun e w' => e = .returned (.tuple #[.pointer none, .int .i64 6]) ∧ w = w' := by
  have d1 : decide (room < 1) = false := decide_eq_false (by omega)
  have d2 : decide (4096 < room) = false := decide_eq_false (by omega)
  have d3 : decide (most < 1) = false := decide_eq_false (by omega)
  have d4 : decide (1024 < most) = false := decide_eq_false (by omega)
  by_cases c1 : den < 1
  · obtain rfl : den = 0 := by omega
    go_enter Try.func6, Try.ntmps6
    go_wp2_with fail
    go_ret2
    exact ⟨rfl, rfl⟩
  have d5 : decide ((den : Int) < 1) = false := decide_eq_false (by omega)
  have d5' : (den == 0) = false := by simp; omega
  by_cases c2 : 65536 < den
  · have d6 : decide (65536 < den) = true := decide_eq_true c2
    have d6' : decide (65536 < (den : Int)) = true := decide_eq_true (by omega)
    go_enter Try.func6, Try.ntmps6
    go_wp2_with fail
    go_ret2
    exact ⟨rfl, rfl⟩
  have d6 : decide (65536 < den) = false := decide_eq_false c2
  have d6' : decide (65536 < (den : Int)) = false := decide_eq_false (by omega)
  have d7 : decide (den ≤ num) = true := decide_eq_true (by omega)
  go_enter Try.func6, Try.ntmps6
  go_wp2_with fail
  go_ret2
  exact ⟨rfl, rfl⟩
section
variable {w : World} {b rb : Nat} {rg : Option Nat} {rv : Value} {room most wait num den : Nat} {win rs : List Int}
theorem glen_any (h : GateIn TG TR TE w b rb rg rv room most wait num den win rs) :
    Calls Try.prog 13 #[.pointer (some ⟨b, 0, none⟩)] w fun e w' => e = .returned (.int .i64 wait) ∧ w = w' := by
  obtain ⟨c0, c1, c2, c3, c4, c5, z0, z1, z2, z3, z4, z5⟩ := cells6 h.blk
  clear h
  go_enter Try.func13, Try.ntmps13
  go_wp2_with fail
  go_ret
  exact ⟨rfl, rfl⟩
theorem glen_nil (w : World) :
    Calls Try.prog 13 #[.pointer none] w fun e w' => e = .returned (.int .i64 0) ∧ w = w' := by
  go_enter Try.func13, Try.ntmps13
  go_wp2_with fail
  go_ret
  exact ⟨rfl, rfl⟩
theorem gtake_none (h : GateIn TG TR TE w b rb rg rv room most 0 num den win rs) :
    Calls Try.prog 14 #[.pointer (some ⟨b, 0, none⟩)] w fun e w' => e = .returned (.bool false) ∧ w = w' := by
  have HL := Lib.hid (glen_any h)
  clear h
  go_enter Try.func14, Try.ntmps14
  go_wp2_with fail
  refine (HL.out).mono ?_
  rintro e w1 ⟨rfl, rfl⟩
  go_wp2_with fail
  go_ret
  exact ⟨rfl, rfl⟩
theorem gtake_nil (w : World) :
    Calls Try.prog 14 #[.pointer none] w fun e w' => e = .returned (.bool false) ∧ w = w' := by
  go_enter Try.func14, Try.ntmps14
  go_wp2_with fail
  refine (glen_nil _).mono ?_
  rintro e w1 ⟨rfl, rfl⟩
  go_wp2_with fail
  go_ret
  exact ⟨rfl, rfl⟩
theorem gtake_some (h : GateIn TG TR TE w b rb rg rv room most (wait + 1) num den win rs) :
    Calls Try.prog 14 #[.pointer (some ⟨b, 0, none⟩)] w fun e w' => e = .returned (.bool true) ∧ GateTurned TG TR TE w w' b rb rg rv room most wait num den win := by
  have HL := Lib.hid (glen_any h)
  obtain ⟨c0, c1, c2, c3, c4, c5, z0, z1, z2, z3, z4, z5⟩ := cells6 h.blk
  have t0 : (((wait + 1 : Nat) : Int) == 0) = false := by simp; omega
  have t1 : ((wait : Int) + 1 == 0) = false := by simp; omega
  have e1 : IntKind.i64.wrap (((wait + 1 : Nat) : Int) - 1) = (wait : Int) := by have := h.r3; have := h.r2; rw [IntKind.wrap_i64]; omega
  have e2 : IntKind.i64.wrap ((wait : Int) + 1 - 1) = (wait : Int) := by have := h.r3; have := h.r2; rw [IntKind.wrap_i64]; omega
  have H := Lib.hid h
  have hr := h.r3
  have hr2 := h.r2
  clear h
  go_enter Try.func14, Try.ntmps14
  go_wp2_with fail
  refine (HL.out).mono ?_
  rintro e w1 ⟨rfl, rfl⟩
  go_wp2_with fail
  go_ret
  exact ⟨rfl, rg, rv, rs, H.out.setW wait (by omega), fun k hk => .inl hk, (Upd.refl _ _).setCell (fun _ => .inl rfl) _⟩
theorem window_any (h : GateIn TG TR TE w b rb rg rv room most wait num den win rs) :
    Calls Try.prog 16 #[.pointer (some ⟨b, 0, none⟩)] w fun e w' => (∃ v, e = .returned v ∧ w'.ownsRow w.heap.size TE 1 v win.length (us win)) ∧ Upd Nowhere w w' := by
  obtain ⟨c0, c1, c2, c3, c4, c5, z0, z1, z2, z3, z4, z5⟩ := cells6 h.blk
  obtain ⟨fr, len, hR⟩ := h.ring
  have HA := Lib.hid (RingU.all_any w rb rg most fr len win hR)
  clear h hR
  go_enter Try.func16, Try.ntmps16
  go_wp2_with fail
  refine (HA.out).mono ?_
  rintro e w1 ⟨⟨v, rfl, hv⟩, hu⟩
  have HV := Lib.hid hv
  have HU := Lib.hid hu
  clear hv hu
  go_wp2_with fail
  go_ret
  exact ⟨⟨v, rfl, HV.out⟩, HU.out⟩
theorem window_nil (w : World) :
    Calls Try.prog 16 #[.pointer none] w fun e w' => e = .returned (.slice none 0 0) ∧ w = w' := by
  go_enter Try.func16, Try.ntmps16
  go_wp2_with fail
  go_ret
  exact ⟨rfl, rfl⟩
/-- BinarySearch, over rising numbers. -/
theorem rise_search {v : Value} {rs : List Int} (x : Int) (h : Rising w v rs) (hs : rs.Pairwise (· ≤ ·)) (hn : rs.length ≤ 4096) :
    Calls Try.prog 18 #[v, .int .u64 x] w fun e w' => e = .returned (.tuple #[.int .i64 (rs.countP (· < x) : Nat), .bool (rs.contains x)]) ∧ ∃ q, w' = w.drewN q := by
  rcases h with ⟨rfl, rfl⟩ | ⟨g, c, rfl, h1, h2, h3⟩
  · refine (search_nil x w).mono ?_
    rintro e w' ⟨rfl, rfl⟩
    exact ⟨rfl, 0, rfl⟩
  · have hs' := search g 0 rs.length c rs x w (Nat.le_refl _) (by omega) (fun j hj => by rw [Nat.zero_add]; exact h3 j _ (us_get rs hj)) (by rw [List.take_of_length_le (Nat.le_refl _)]; exact hs)
    rw [List.take_of_length_le (Nat.le_refl _)] at hs'
    exact hs'
theorem Rising.form {v : Value} {rs : List Int} (h : Rising w v rs) : ∃ ad c, v = .slice ad rs.length c := by
  rcases h with ⟨rfl, rfl⟩ | ⟨g, c, rfl, _⟩
  · exact ⟨none, 0, rfl⟩
  · exact ⟨_, c, rfl⟩
/-- May a rank come? -/
def mayB (room wait num den : Nat) (win : List Int) (rank : Nat) : Bool := decide (wait < room ∧ win.countP (· < (rank : Int)) * (den - num) * room ≤ (room - wait) * den * win.length)
theorem may_any (h : GateIn TG TR TE w b rb rg rv room most wait num den win rs) (rank : Nat) :
    Calls Try.prog 9 #[.pointer (some ⟨b, 0, none⟩), .int .u64 rank] w fun e w' => e = .returned (.bool (mayB room wait num den win rank)) ∧ ∃ q, w' = w.drewN q := by
  obtain ⟨c0, c1, c2, c3, c4, c5, z0, z1, z2, z3, z4, z5⟩ := cells6 h.blk
  by_cases hw : room ≤ wait
  · have t0 : decide ((wait : Int) ≥ room) = true := decide_eq_true (by omega)
    have t1 : decide (room ≤ wait) = true := decide_eq_true hw
    have e0 : mayB room wait num den win rank = false := decide_eq_false (by omega)
    rw [e0]
    clear h hw
    go_enter Try.func9, Try.ntmps9
    go_wp2_with fail
    go_quiet (fail)
    go_wp2_with fail
    go_ret
    exact ⟨rfl, _, rfl⟩
  · have t0 : decide ((wait : Int) ≥ room) = false := decide_eq_false (by omega)
    have t1 : decide (room ≤ wait) = false := decide_eq_false hw
    have hS := fun u (hu : Upd Nowhere w u) => Lib.hid (rise_search (w := u) rank (h.old hu).row h.srt (by have := h.len; have := h.m3; have := h.m2; omega))
    obtain ⟨ad, ca, hrv⟩ := h.row.form
    obtain ⟨K, hK, hKl⟩ : ∃ K, rs.countP (· < (rank : Int)) = K ∧ K ≤ 1024 := ⟨_, rfl, by have : rs.countP (· < (rank : Int)) ≤ rs.length := List.countP_le_length; have := h.len; have := h.m3; have := h.m2; omega⟩
    have hKw : win.countP (· < (rank : Int)) = K := by rw [← hK, h.perm.countP_eq]
    obtain ⟨D, hD, hDl⟩ : ∃ D, den - num = D ∧ D ≤ 65536 := ⟨_, rfl, by have := h.d2; omega⟩
    obtain ⟨R, hR, hRl⟩ : ∃ R, room - wait = R ∧ R ≤ 4096 := ⟨_, rfl, by have := h.r2; omega⟩
    obtain ⟨L, hL, hLl⟩ : ∃ L, win.length = L ∧ L ≤ 1024 := ⟨_, rfl, by have := h.m3; have := h.m2; omega⟩
    have hrl : rs.length = L := by rw [h.len, hL]
    have hr2 := h.r2
    have hd2 := h.d2
    have hd1 := h.d1
    obtain ⟨P1, hP1, hP1l⟩ : ∃ P, K * D = P ∧ P ≤ 67108864 := ⟨_, rfl, Nat.mul_le_mul hKl hDl⟩
    obtain ⟨P2, hP2, hP2l⟩ : ∃ P, P1 * room = P ∧ P ≤ 274877906944 := ⟨_, rfl, Nat.mul_le_mul hP1l hr2⟩
    obtain ⟨Q1, hQ1, hQ1l⟩ : ∃ P, R * den = P ∧ P ≤ 268435456 := ⟨_, rfl, Nat.mul_le_mul hRl hd2⟩
    obtain ⟨Q2, hQ2, hQ2l⟩ : ∃ P, Q1 * L = P ∧ P ≤ 274877906944 := ⟨_, rfl, Nat.mul_le_mul hQ1l hLl⟩
    have e0 : mayB room wait num den win rank = decide (P2 ≤ Q2) := by
      unfold mayB
      rw [hKw, hD, hR, hL, hP1, hP2, hQ1, hQ2]
      exact decide_eq_decide.2 ⟨fun h => h.2, fun h => ⟨by omega, h⟩⟩
    rw [e0]
    have x1 : IntKind.u64.wrap (K : Int) = (K : Int) := by rw [IntKind.wrap_u64]; omega
    have x2 : IntKind.u64.wrap (room : Int) = (room : Int) := by rw [IntKind.wrap_u64]; omega
    have x3 : IntKind.u64.wrap (wait : Int) = (wait : Int) := by have := h.r3; rw [IntKind.wrap_u64]; omega
    have x4 : IntKind.u64.wrap (L : Int) = (L : Int) := by rw [IntKind.wrap_u64]; omega
    have y1 : IntKind.u64.wrap ((den : Int) - num) = (D : Int) := by rw [IntKind.wrap_u64]; omega
    have y2 : IntKind.u64.wrap ((K : Int) * D) = (P1 : Int) := by rw [← Int.natCast_mul, hP1, IntKind.wrap_u64]; omega
    have y3 : IntKind.u64.wrap ((P1 : Int) * room) = (P2 : Int) := by rw [← Int.natCast_mul, hP2, IntKind.wrap_u64]; omega
    have y4 : IntKind.u64.wrap ((room : Int) - wait) = (R : Int) := by rw [IntKind.wrap_u64]; omega
    have y5 : IntKind.u64.wrap ((R : Int) * den) = (Q1 : Int) := by rw [← Int.natCast_mul, hQ1, IntKind.wrap_u64]; omega
    have y6 : IntKind.u64.wrap ((Q1 : Int) * L) = (Q2 : Int) := by rw [← Int.natCast_mul, hQ2, IntKind.wrap_u64]; omega
    simp only [hK] at hS
    subst hrv
    rw [hrl] at c1
    simp only [hrl] at hS
    generalize rs.contains (rank : Int) = ct at hS
    clear h hw e0 hKw hK hD hR hL hrl hP1 hP2 hQ1 hQ2
    go_enter Try.func9, Try.ntmps9
    go_wp2_with fail
    go_quiet (fail)
    have hU1 : Upd Nowhere w (w.drewN nq) := (Upd.refl _ _).drewN nq
    go_wp2_with fail
    refine (hS _ hU1).out.mono ?_
    rintro e w' ⟨rfl, q, rfl⟩
    go_wp2_with fail
    go_quiet (fail)
    go_wp2_with fail
    go_ret
    refine ⟨?_, _, World.drewN_drewN _ _ _⟩
    first | rfl | (exact ret_bool (by simp))
end
end Go.Proofs.Ytgppbclgabdkoaa.Aifo
