/- Gate, Gate2, one behind the other. -/
import Derived.Test.YtdddfmdcjjbegaaGreatMeAifo
import Derived.Test.YtdddfmdcjjbegaaGreatMeB
import Derived.Test.YtdddfmdcjjbegaaGreatMeRU
import Derived.Test.YtdddfmdcjjbegaaGreatMeA
import Derived.Deep.DeepCutAuto
namespace Go.Proofs.YtdddfmdcjjbegaaGreat.Aifo
open Go.RowKit Go.Proofs BigFrame
open RingU (TR TE)
abbrev TG : TypeId := 172
set_option maxHeartbeats 4000000
set_option maxRecDepth 1000000
theorem new_ok (w : World) (room most num den : Nat) (h1 : 1 ≤ room) (h2 : room ≤ 4096) (h3 : 1 ≤ most) (h4 : most ≤ 1024) (h5 : num < den) (h6 : den ≤ 65536) :
 Calls Tryz.prog 34 #[.int .i64 room, .int .i64 most, .int .u64 num, .int .u64 den] w fun e w' => ∃ b, e = .returned (.tuple #[.pointer (some ⟨b, 0, none⟩), .int .i64 0]) ∧ HasG TG TR TE (fun _ => False) w w' b room most 0 num den [] ∧ Upd Nowhere w w' := by
 have d1 : decide ((room : Int) < 1) = false := decide_eq_false (by omega)
 have d2 : decide ((room : Int) > 4096) = false := decide_eq_false (by omega)
 have d2' : decide (4096 < (room : Int)) = false := decide_eq_false (by omega)
 have d3 : decide ((most : Int) < 1) = false := decide_eq_false (by omega)
 have d4 : decide ((most : Int) > 1024) = false := decide_eq_false (by omega)
 have d4' : decide (1024 < (most : Int)) = false := decide_eq_false (by omega)
 have d5 : decide ((den : Int) < 1) = false := decide_eq_false (by omega)
 have d6 : decide ((den : Int) > 65536) = false := decide_eq_false (by omega)
 have d6' : decide (65536 < (den : Int)) = false := decide_eq_false (by omega)
 have d7 : decide ((num : Int) ≥ den) = false := decide_eq_false (by omega)
 have d7' : decide (den ≤ num) = false := decide_eq_false (by omega)
 have HN := fun u => Lib.hid (RingU.new_ok u most h3 (by omega))
 go_enter Tryz.func34, Tryz.ntmps34
 go_wp2_with fail
 refine (HN _).out.mono ?_
 rintro e w1 ⟨rfl, hr, hu⟩
 have hsz := hr.lts (.inl rfl)
 go_wp2_with fail
 go_ret2
 refine ⟨_, rfl, ⟨w.heap.size, none, .slice none 0 0, [], ⟨Blk.new _ _ _, hr.kept ((Upd.refl _ _).alloc _) (fun _ _ h => h), .inl ⟨rfl, rfl⟩, List.Perm.refl _, List.Pairwise.nil, h1, h2, Nat.zero_le _, h3, h4, Nat.zero_le _, h5, h6, fun k hk => ?_, fun k hk => by cases hk⟩, fun k hk => ?_, ?_⟩, hu.alloc _⟩
 · rcases hk with rfl | hk
   · omega
   · cases hk
 · refine ⟨?_, id⟩
   rcases hk with rfl | hk | hk
   · exact hu.size
   · rcases hk with rfl | hk
     · exact Nat.le_refl _
     · cases hk
   · cases hk
 · have := hu.size; simp; omega
theorem new_caps (w : World) (room most : Int) (num den : Nat) (h : room < 1 ∨ 4096 < room ∨ most < 1 ∨ 1024 < most) :
 Calls Tryz.prog 34 #[.int .i64 room, .int .i64 most, .int .u64 num, .int .u64 den] w fun e w' => e = .returned (.tuple #[.pointer none, .int .i64 25]) ∧ w = w' := by
 by_cases c1 : room < 1
 · have d1 : decide (room < 1) = true := decide_eq_true c1
   go_enter Tryz.func34, Tryz.ntmps34
   go_wp2_with fail
   go_ret2
   exact ⟨rfl, rfl⟩
 have d1 : decide (room < 1) = false := decide_eq_false c1
 by_cases c2 : 4096 < room
 · have d2 : decide (4096 < room) = true := decide_eq_true c2
   go_enter Tryz.func34, Tryz.ntmps34
   go_wp2_with fail
   go_ret2
   exact ⟨rfl, rfl⟩
 have d2 : decide (4096 < room) = false := decide_eq_false c2
 by_cases c3 : most < 1
 · have d3 : decide (most < 1) = true := decide_eq_true c3
   go_enter Tryz.func34, Tryz.ntmps34
   go_wp2_with fail
   go_ret2
   exact ⟨rfl, rfl⟩
 have d3 : decide (most < 1) = false := decide_eq_false c3
 have d4 : decide (1024 < most) = true := decide_eq_true (by omega)
 go_enter Tryz.func34, Tryz.ntmps34
 go_wp2_with fail
 go_ret2
 exact ⟨rfl, rfl⟩
theorem new_arg (w : World) (room most : Int) (num den : Nat) (h1 : 1 ≤ room) (h2 : room ≤ 4096) (h3 : 1 ≤ most) (h4 : most ≤ 1024) (h : den < 1 ∨ 65536 < den ∨ den ≤ num) :
 Calls Tryz.prog 34 #[.int .i64 room, .int .i64 most, .int .u64 num, .int .u64 den] w fun e w' => e = .returned (.tuple #[.pointer none, .int .i64 6]) ∧ w = w' := by
 have d1 : decide (room < 1) = false := decide_eq_false (by omega)
 have d2 : decide (4096 < room) = false := decide_eq_false (by omega)
 have d3 : decide (most < 1) = false := decide_eq_false (by omega)
 have d4 : decide (1024 < most) = false := decide_eq_false (by omega)
 by_cases c1 : den < 1
 · obtain rfl : den = 0 := by omega
   go_enter Tryz.func34, Tryz.ntmps34
   go_wp2_with fail
   go_ret2
   exact ⟨rfl, rfl⟩
 have d5 : decide ((den : Int) < 1) = false := decide_eq_false (by omega)
 have d5' : (den == 0) = false := by simp; omega
 by_cases c2 : 65536 < den
 · have d6 : decide (65536 < den) = true := decide_eq_true c2
   have d6' : decide (65536 < (den : Int)) = true := decide_eq_true (by omega)
   go_enter Tryz.func34, Tryz.ntmps34
   go_wp2_with fail
   go_ret2
   exact ⟨rfl, rfl⟩
 have d6 : decide (65536 < den) = false := decide_eq_false c2
 have d6' : decide (65536 < (den : Int)) = false := decide_eq_false (by omega)
 have d7 : decide (den ≤ num) = true := decide_eq_true (by omega)
 go_enter Tryz.func34, Tryz.ntmps34
 go_wp2_with fail
 go_ret2
 exact ⟨rfl, rfl⟩
section
variable {w : World} {b rb : Nat} {rg : Option Nat} {rv : Value} {room most wait num den : Nat} {win rs : List Int}
theorem glen_any (h : GateIn TG TR TE w b rb rg rv room most wait num den win rs) :
 Calls Tryz.prog 108 #[.pointer (some ⟨b, 0, none⟩)] w fun e w' => e = .returned (.int .i64 wait) ∧ w = w' := by
 obtain ⟨c0, c1, c2, c3, c4, c5, z0, z1, z2, z3, z4, z5⟩ := cells6 h.blk
 clear h
 go_enter Tryz.func108, Tryz.ntmps108
 go_wp2_with fail
 go_ret
 exact ⟨rfl, rfl⟩
theorem gtake_some (h : GateIn TG TR TE w b rb rg rv room most (wait + 1) num den win rs) :
 Calls Tryz.prog 74 #[.pointer (some ⟨b, 0, none⟩)] w fun e w' => e = .returned (.bool true) ∧ GateTurned TG TR TE w w' b rb rg rv room most wait num den win := by
 have HL := Lib.hid (glen_any h)
 obtain ⟨c0, c1, c2, c3, c4, c5, z0, z1, z2, z3, z4, z5⟩ := cells6 h.blk
 have t0 : (((wait + 1 : Nat) : Int) == 0) = false := by simp; omega
 have t1 : ((wait : Int) + 1 == 0) = false := by simp; omega
 have e1 : IntKind.i64.wrap (((wait + 1 : Nat) : Int) - 1) = (wait : Int) := by have := h.r3; have := h.r2; rw [IntKind.wrap_i64]; omega
 have e2 : IntKind.i64.wrap ((wait : Int) + 1 - 1) = (wait : Int) := by have := h.r3; have := h.r2; rw [IntKind.wrap_i64]; omega
 have H := Lib.hid h
 have hr := h.r3
 have hr2 := h.r2
 clear h
 go_enter Tryz.func74, Tryz.ntmps74
 go_wp2_with fail
 refine (HL.out).mono ?_
 rintro e w1 ⟨rfl, rfl⟩
 go_wp2_with fail
 go_ret
 exact ⟨rfl, rg, rv, rs, H.out.setW wait (by omega), fun k hk => .inl hk, (Upd.refl _ _).setCell (fun _ => .inl rfl) _⟩
/-- BinarySearch, over rising numbers. -/
theorem rise_search {v : Value} {rs : List Int} (x : Int) (h : Rising w v rs) (hs : rs.Pairwise (· ≤ ·)) (hn : rs.length ≤ 4096) :
 Calls Tryz.prog 117 #[v, .int .u64 x] w fun e w' => e = .returned (.tuple #[.int .i64 (rs.countP (· < x) : Nat), .bool (rs.contains x)]) ∧ ∃ q, w' = w.drewN q := by
 rcases h with ⟨rfl, rfl⟩ | ⟨g, c, rfl, h1, h2, h3⟩
 · refine (search_nil x w).mono ?_
   rintro e w' ⟨rfl, rfl⟩
   exact ⟨rfl, 0, rfl⟩
 · have hs' := search g 0 rs.length c rs x w (Nat.le_refl _) (by omega) (fun j hj => by rw [Nat.zero_add]; exact h3 j _ (us_get rs hj)) (by rw [List.take_of_length_le (Nat.le_refl _)]; exact hs)
   rw [List.take_of_length_le (Nat.le_refl _)] at hs'
   exact hs'
theorem Rising.form {v : Value} {rs : List Int} (h : Rising w v rs) : ∃ ad c, v = .slice ad rs.length c := by
 rcases h with ⟨rfl, rfl⟩ | ⟨g, c, rfl, _⟩
 · exact ⟨none, 0, rfl⟩
 · exact ⟨_, c, rfl⟩
/-- May a rank come? -/
def mayB (room wait num den : Nat) (win : List Int) (rank : Nat) : Bool := decide (wait < room ∧ win.countP (· < (rank : Int)) * (den - num) * room ≤ (room - wait) * den * win.length)
theorem may_any (h : GateIn TG TR TE w b rb rg rv room most wait num den win rs) (rank : Nat) :
 Calls Tryz.prog 93 #[.pointer (some ⟨b, 0, none⟩), .int .u64 rank] w fun e w' => e = .returned (.bool (mayB room wait num den win rank)) ∧ ∃ q, w' = w.drewN q := by
 obtain ⟨c0, c1, c2, c3, c4, c5, z0, z1, z2, z3, z4, z5⟩ := cells6 h.blk
 by_cases hw : room ≤ wait
 · have t0 : decide ((wait : Int) ≥ room) = true := decide_eq_true (by omega)
   have t1 : decide (room ≤ wait) = true := decide_eq_true hw
   have e0 : mayB room wait num den win rank = false := decide_eq_false (by omega)
   rw [e0]
   clear h hw
   go_enter Tryz.func93, Tryz.ntmps93
   go_wp2_with fail
   go_quiet (fail)
   go_wp2_with fail
   go_ret
   exact ⟨rfl, _, rfl⟩
 · have t0 : decide ((wait : Int) ≥ room) = false := decide_eq_false (by omega)
   have t1 : decide (room ≤ wait) = false := decide_eq_false hw
   have hS := fun u (hu : Upd Nowhere w u) => Lib.hid (rise_search (w := u) rank (h.old hu).row h.srt (by have := h.len; have := h.m3; have := h.m2; omega))
   obtain ⟨ad, ca, hrv⟩ := h.row.form
   obtain ⟨K, hK, hKl⟩ : ∃ K, rs.countP (· < (rank : Int)) = K ∧ K ≤ 1024 := ⟨_, rfl, by have : rs.countP (· < (rank : Int)) ≤ rs.length := List.countP_le_length; have := h.len; have := h.m3; have := h.m2; omega⟩
   have hKw : win.countP (· < (rank : Int)) = K := by rw [← hK, h.perm.countP_eq]
   obtain ⟨D, hD, hDl⟩ : ∃ D, den - num = D ∧ D ≤ 65536 := ⟨_, rfl, by have := h.d2; omega⟩
   obtain ⟨R, hR, hRl⟩ : ∃ R, room - wait = R ∧ R ≤ 4096 := ⟨_, rfl, by have := h.r2; omega⟩
   obtain ⟨L, hL, hLl⟩ : ∃ L, win.length = L ∧ L ≤ 1024 := ⟨_, rfl, by have := h.m3; have := h.m2; omega⟩
   have hrl : rs.length = L := by rw [h.len, hL]
   have hr2 := h.r2
   have hd2 := h.d2
   have hd1 := h.d1
   obtain ⟨P1, hP1, hP1l⟩ : ∃ P, K * D = P ∧ P ≤ 67108864 := ⟨_, rfl, Nat.mul_le_mul hKl hDl⟩
   obtain ⟨P2, hP2, hP2l⟩ : ∃ P, P1 * room = P ∧ P ≤ 274877906944 := ⟨_, rfl, Nat.mul_le_mul hP1l hr2⟩
   obtain ⟨Q1, hQ1, hQ1l⟩ : ∃ P, R * den = P ∧ P ≤ 268435456 := ⟨_, rfl, Nat.mul_le_mul hRl hd2⟩
   obtain ⟨Q2, hQ2, hQ2l⟩ : ∃ P, Q1 * L = P ∧ P ≤ 274877906944 := ⟨_, rfl, Nat.mul_le_mul hQ1l hLl⟩
   have e0 : mayB room wait num den win rank = decide (P2 ≤ Q2) := by
    unfold mayB
    rw [hKw, hD, hR, hL, hP1, hP2, hQ1, hQ2]
    exact decide_eq_decide.2 ⟨fun h => h.2, fun h => ⟨by omega, h⟩⟩
   rw [e0]
   have x1 : IntKind.u64.wrap (K : Int) = (K : Int) := by rw [IntKind.wrap_u64]; omega
   have x2 : IntKind.u64.wrap (room : Int) = (room : Int) := by rw [IntKind.wrap_u64]; omega
   have x3 : IntKind.u64.wrap (wait : Int) = (wait : Int) := by have := h.r3; rw [IntKind.wrap_u64]; omega
   have x4 : IntKind.u64.wrap (L : Int) = (L : Int) := by rw [IntKind.wrap_u64]; omega
   have y1 : IntKind.u64.wrap ((den : Int) - num) = (D : Int) := by rw [IntKind.wrap_u64]; omega
   have y2 : IntKind.u64.wrap ((K : Int) * D) = (P1 : Int) := by rw [← Int.natCast_mul, hP1, IntKind.wrap_u64]; omega
   have y3 : IntKind.u64.wrap ((P1 : Int) * room) = (P2 : Int) := by rw [← Int.natCast_mul, hP2, IntKind.wrap_u64]; omega
   have y4 : IntKind.u64.wrap ((room : Int) - wait) = (R : Int) := by rw [IntKind.wrap_u64]; omega
   have y5 : IntKind.u64.wrap ((R : Int) * den) = (Q1 : Int) := by rw [← Int.natCast_mul, hQ1, IntKind.wrap_u64]; omega
   have y6 : IntKind.u64.wrap ((Q1 : Int) * L) = (Q2 : Int) := by rw [← Int.natCast_mul, hQ2, IntKind.wrap_u64]; omega
   simp only [hK] at hS
   subst hrv
   rw [hrl] at c1
   simp only [hrl] at hS
   generalize rs.contains (rank : Int) = ct at hS
   clear h hw e0 hKw hK hD hR hL hrl hP1 hP2 hQ1 hQ2
   go_enter Tryz.func93, Tryz.ntmps93
   go_wp2_with fail
   go_quiet (fail)
   have hU1 : Upd Nowhere w (w.drewN nq) := (Upd.refl _ _).drewN nq
   go_wp2_with fail
   refine (hS _ hU1).out.mono ?_
   rintro e w' ⟨rfl, q, rfl⟩
   go_wp2_with fail
   go_quiet (fail)
   go_wp2_with fail
   go_ret
   refine ⟨?_, _, World.drewN_drewN _ _ _⟩
   first | rfl | (exact ret_bool (by simp))
end
end Go.Proofs.YtdddfmdcjjbegaaGreat.Aifo
namespace Go.Proofs.YtdddfmdcjjbegaaGreat.Aifo
open Go.RowKit Go.Proofs BigFrame
open RingU (TR TE)
set_option maxHeartbeats 4000000
set_option maxRecDepth 1000000
theorem rise_insert {w : World} {v : Value} {rs : List Int} (x : Int) (h : Rising w v rs) (hs : rs.Pairwise (· ≤ ·)) (hn : rs.length ≤ 4096) :
 Calls Tryz.prog 98 #[v, .int .u64 x] w fun e w' => ∃ v, e = .returned v ∧ Rising w' v (ins rs x) ∧ NewRow w v ∧ Upd Nowhere w w' := by
 rcases h with ⟨rfl, rfl⟩ | ⟨g, c, rfl, h1, h2, h3⟩
 · exact insert_nil x w
 · exact insert_some g 0 rs.length c rs x w rfl h1 hn (fun j u hj => by rw [Nat.zero_add]; exact h3 j u hj) hs
theorem rise_remove {w : World} {v : Value} {rs : List Int} (x : Int) (h : Rising w v rs) (hs : rs.Pairwise (· ≤ ·)) (hn : rs.length ≤ 4096) (hx : x ∈ rs) :
 Calls Tryz.prog 96 #[v, .int .u64 x] w fun e w' => ∃ v, e = .returned v ∧ Rising w' v (del rs x) ∧ NewRow w v ∧ Upd Nowhere w w' := by
 rcases h with ⟨rfl, rfl⟩ | ⟨g, c, rfl, h1, h2, h3⟩
 · cases hx
 · obtain ⟨m, hm⟩ : ∃ m, rs.length = m + 1 := ⟨rs.length - 1, by cases rs with | nil => cases hx | cons a r => simp⟩
   rw [hm]
   exact remove_some g 0 m c rs x w hm (by omega) (by omega) (fun j u hj => by rw [Nat.zero_add]; exact h3 j u hj) hs hx
/-- The window behind an offer: the oldest goes where it is full. -/
def slid (most : Nat) (win : List Int) : List Int := if win.length < most then win else win.tail
theorem offer_any {w : World} {b rb : Nat} {rg : Option Nat} {rv : Value} {room most wait num den : Nat} {win rs : List Int} (h : GateIn TG TR TE w b rb rg rv room most wait num den win rs) (rank : Nat) :
 Calls Tryz.prog 67 #[.pointer (some ⟨b, 0, none⟩), .int .u64 rank] w fun e w' => e = .returned (.bool (mayB room wait num den win rank)) ∧
  GateTurned TG TR TE w w' b rb rg rv room most (if mayB room wait num den win rank then wait + 1 else wait) num den (slid most win ++ [(rank : Int)]) := by
 obtain ⟨c0, c1, c2, c3, c4, c5, z0, z1, z2, z3, z4, z5⟩ := cells6 h.blk
 have hmay := may_any h rank
 obtain ⟨mb, hmb, hmw⟩ : ∃ mb, mayB room wait num den win rank = mb ∧ (mb = true → wait < room) := ⟨_, rfl, fun h => (of_decide_eq_true h).1⟩
 rw [hmb] at hmay ⊢
 obtain ⟨wa, hwa⟩ : ∃ t, (if mb then wait + 1 else wait) = t := ⟨_, rfl⟩
 rw [hwa]
 have HWA := Lib.hid hwa
 clear hwa
 have HM := Lib.hid hmay
 have H0 := Lib.hid h
 have hr2 := h.r2
 have hm2 := h.m2
 have hm3 := h.m3
 clear hmb hmay h
 go_enter Tryz.func67, Tryz.ntmps67
 go_wp2_with fail
 refine (HM.out).mono ?_
 rintro e w1 ⟨rfl, q, rfl⟩
 have hU1 : Upd Nowhere w (w.drewN q) := (Upd.refl _ _).drewN q
 have H1 := Lib.hid (H0.out.old hU1)
 go_upto_if 20 with fail
 generalize w.drewN q = w1 at *
 clear c0 c1 c2 c3 c4 c5 z0 z1 z2 z3 z4 z5 H0 HM
 go_cut [] (fun wx => GateIn TG TR TE wx b rb rg rv room most wa num den win rs ∧ Upd (GateOf b rb rg rv) w wx)
 case first =>
  obtain ⟨c0, c1, c2, c3, c4, c5, z0, z1, z2, z3, z4, z5⟩ := cells6 H1.out.blk
  have e1 : mb = true → IntKind.i64.wrap ((wait : Int) + 1) = ((wait + 1 : Nat) : Int) := fun h => by have := hmw h; rw [IntKind.wrap_i64]; omega
  cases mb with
  | true =>
    have e2 := e1 rfl
    have hlt := hmw rfl
    clear e1 hmw
    go_wp2_with fail
    go_meet
    obtain rfl : wait + 1 = wa := HWA.out
    exact ⟨H1.out.setW (wait + 1) hlt, (hU1.any _).setCell (fun _ => .inl rfl) _⟩
  | false =>
    clear e1 hmw
    go_wp2_with fail
    go_meet
    obtain rfl : wait = wa := HWA.out
    exact ⟨H1.out, hU1.any _⟩
 case rest =>
  obtain ⟨h2, hu2⟩ := hcut
  have H2 := Lib.hid h2
  have HU2 := Lib.hid hu2
  clear h2 hu2 H1 hU1 hmw
  obtain ⟨c0, c1, c2, c3, c4, c5, z0, z1, z2, z3, z4, z5⟩ := cells6 H2.out.blk
  obtain ⟨fr, len, hRI⟩ := H2.out.ring
  have r2 := hRI.c2
  have r3 := hRI.c3
  rw [List.length_map] at r2
  clear hRI
  go_upto_if 33 with ((refine (RingU.room_any _ _ _ _ r2 r3 (by omega) (by omega) (by omega)).mono ?_; rintro e w' ⟨rfl, nq, rfl⟩))
  have hU3 : Upd Nowhere wc (wc.drewN nq) := (Upd.refl _ _).drewN nq
  have H3 := Lib.hid (H2.out.old hU3)
  have HU3 := Lib.hid (HU2.out.trans hU3 (fun _ _ h => h.elim))
  generalize wc.drewN nq = w3 at *
  clear c0 c1 c2 c3 c4 c5 z0 z1 z2 z3 z4 z5 r2 r3 H2 HU2 hU3 hm3 fr len
  go_cut [6, 7] (fun a1 a2 wx => GateTurned TG TR TE w wx b rb rg rv room most wa num den (slid most win) ∧ (slid most win).length < most)
  case first =>
   obtain ⟨c0, c1, c2, c3, c4, c5, z0, z1, z2, z3, z4, z5⟩ := cells6 H3.out.blk
   have hm3 := H3.out.m3
   have hm1 := H3.out.m1
   by_cases hf : win.length < most
   · have t0 : ((most : Int) - win.length == 0) = false := by simp; omega
     go_wp2_with fail
     go_meet
     have e : slid most win = win := if_pos hf
     rw [e]
     exact ⟨turned_self H3.out HU3.out, hf⟩
   · have t0 : ((most : Int) - win.length == 0) = true := by simp; omega
     obtain ⟨x, r, hxr⟩ : ∃ x r, win = x :: r := by
      cases win with
      | nil => simp at hf; omega
      | cons x r => exact ⟨x, r, rfl⟩
     subst hxr
     have e : slid most (x :: r) = r := by unfold slid; rw [if_neg hf]; rfl
     have HE := Lib.hid e
     clear e
     obtain ⟨fr, len, hRI⟩ := H3.out.ring
     have HT := Lib.hid (RingU.take_some w3 rb rg most fr len x r hRI)
     clear hRI
     go_wp2_with fail
     refine (HT.out).mono ?_
     rintro e w4 ⟨rfl, ht⟩
     have HTT := Lib.hid ht
     obtain ⟨rg4, hR4, hsn4, hu4⟩ := ht
     have hb4 := H3.out.blk.kept hu4 (fun hk => H3.out.off b hk rfl)
     clear c0 c1 c2 c3 c4 c5 z0 z1 z2 z3 z4 z5
     obtain ⟨c0, c1, c2, c3, c4, c5, z0, z1, z2, z3, z4, z5⟩ := cells6 hb4
     have hRS := H3.out.row.upd hu4 (fun k hk hk2 => (H3.out.voff k hk).2 hk2)
     have hxin : x ∈ rs := H3.out.perm.mem_iff.2 (List.mem_cons_self ..)
     have HRM := Lib.hid (rise_remove x hRS H3.out.srt (by have := H3.out.len; omega) hxin)
     clear hRS hR4 hsn4 hu4 hb4 HT
     go_wp2_with fail
     refine (HRM.out).mono ?_
     rintro e w5 ⟨v5, rfl, hr5, hn5, hu5⟩
     obtain ⟨ad5, ca5, rfl⟩ := hr5.form
     have H5 := Lib.hid (H3.out.swap HTT.out hu5 hr5 hn5 (List.Perm.cons_inv ((del_perm H3.out.srt hxin).symm.trans H3.out.perm)) (del_sorted H3.out.srt) (by simp at hm3; omega))
     have k1 := cell_old hu5 c1
     have y1 : w5.frozen? ⟨b, 1, none⟩ = false := (hu5.frozen 1 (cell_lt c1) id).trans z1
     clear hr5 hn5 hu5 HTT HRM
     go_wp2_with fail
     go_meet
     rw [HE.out]
     exact ⟨turned_trans (fun k hk => .inl hk) HU3.out H5.out, by simp at hm3; omega⟩
  case rest =>
   obtain ⟨ht, hlt⟩ := hcut
   obtain ⟨rg6, rv6, rs6, h6, hb6, hu6⟩ := ht
   have H6 := Lib.hid h6
   have HB6 := Lib.hid hb6
   have HU6 := Lib.hid hu6
   have hW6 := h6.blk.lt
   clear h6 hb6 hu6 H3 HU3
   obtain ⟨c0, c1, c2, c3, c4, c5, z0, z1, z2, z3, z4, z5⟩ := cells6 H6.out.blk
   obtain ⟨fr, len, hRI⟩ := H6.out.ring
   have HP := Lib.hid (RingU.put_room wc rb rg6 most fr len (slid most win) rank hRI hlt)
   clear hRI
   go_wp2_with fail
   refine (HP.out).mono ?_
   rintro e w7 ⟨rfl, ht⟩
   have HTT := Lib.hid ht
   obtain ⟨rg7, hR7, hsn7, hu7⟩ := ht
   have hb7 := H6.out.blk.kept hu7 (fun hk => H6.out.off b hk rfl)
   clear c0 c1 c2 c3 c4 c5 z0 z1 z2 z3 z4 z5
   obtain ⟨c0, c1, c2, c3, c4, c5, z0, z1, z2, z3, z4, z5⟩ := cells6 hb7
   have hRS := H6.out.row.upd hu7 (fun k hk hk2 => (H6.out.voff k hk).2 hk2)
   have HRM := Lib.hid (rise_insert (rank : Int) hRS H6.out.srt (by have := H6.out.len; omega))
   clear hRS hR7 hsn7 hu7 hb7 HP
   go_wp2_with fail
   refine (HRM.out).mono ?_
   rintro e w8 ⟨v8, rfl, hr8, hn8, hu8⟩
   obtain ⟨ad8, ca8, rfl⟩ := hr8.form
   have H8 := Lib.hid (H6.out.swap HTT.out hu8 hr8 hn8 (((ins_perm rs6 rank).trans (H6.out.perm.cons _)).trans (List.perm_append_singleton _ _).symm) (ins_sorted H6.out.srt) (by simp; omega))
   have k1 := cell_old hu8 c1
   have y1 : w8.frozen? ⟨b, 1, none⟩ = false := (hu8.frozen 1 (cell_lt c1) id).trans z1
   clear hr8 hn8 hu8 HTT HRM
   go_wp2_with fail
   go_ret
   exact ⟨rfl, turned_trans HB6.out HU6.out H8.out⟩
end Go.Proofs.YtdddfmdcjjbegaaGreat.Aifo

