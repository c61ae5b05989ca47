/- GtP, Gt3, Gt4, Gt5, Gt6, Gt7, one behind the other. -/
import Derived.Test.YtpgpjjkeginbbaaGreatDoorMtPl
import Derived.Test.YtpgpjjkeginbbaaGreatDoorMtRnk
import Derived.Test.YtpgpjjkeginbbaaGreatDoorMtSat
import Derived.Test.YtpgpjjkeginbbaaGreatDoorMtGt
import Derived.Test.YtpgpjjkeginbbaaGreatDoorMtA
namespace Go.Proofs.YtpgpjjkeginbbaaGreatDoor.Gt
open Sh (Fl Cg)
/-- What a table holds of the first k flows. -/
def tblM (l : List Fl) (k : Nat) : Nat → Option Tab.Own := fun id => ((l.take k).find? (fun f => f.id == id)).map (fun f => (0, 0, f.cap))
theorem tblM_zero (l : List Fl) : tblM l 0 = fun _ => none := by funext id; unfold tblM; rw [List.take_zero]; rfl
theorem tblM_all (l : List Fl) : tblM l l.length = fun id => (l.find? (fun f => f.id == id)).map (fun f => (0, 0, f.cap)) := by funext id; unfold tblM; rw [List.take_length]
theorem tblM_none {l : List Fl} {k : Nat} {f : Fl} (h : l[k]? = some f) (hn : (l.map Fl.id).Nodup) : tblM l k f.id = none := by
 have hlt : k < l.length := by
  rcases Nat.lt_or_ge k l.length with h' | h'
  · exact h'
  · rw [List.getElem?_eq_none h'] at h; cases h
 have : (l.take k).find? (fun g => g.id == f.id) = none := by
  rw [List.find?_eq_none]
  intro g hg
  obtain ⟨j, hj, rfl⟩ := List.getElem_of_mem hg
  rw [List.length_take] at hj
  rw [List.getElem_take]
  rw [List.getElem?_eq_getElem hlt] at h
  have hf := Option.some.inj h
  intro he
  have he := beq_iff_eq.1 he
  have h1 : (l.map Fl.id)[j]'(by rw [List.length_map]; omega) = (l.map Fl.id)[k]'(by rw [List.length_map]; omega) := by rw [List.getElem_map, List.getElem_map, hf, he]
  have := (List.getElem_inj hn).1 h1
  omega
 unfold tblM
 rw [this]; rfl
theorem tblM_succ {l : List Fl} {k : Nat} {f : Fl} (h : l[k]? = some f) (hn : (l.map Fl.id).Nodup) : tblM l (k + 1) = Tab.upm (tblM l k) f.id (0, 0, f.cap) := by
 have h0 := tblM_none h hn
 funext id
 unfold Tab.upm
 by_cases e : id = f.id
 · subst e
   rw [if_pos rfl]
   unfold tblM at h0 ⊢
   rw [List.take_add_one, h, List.find?_append]
   cases hx : (l.take k).find? (fun g => g.id == f.id) with
   | none => simp
   | some g => rw [hx] at h0; cases h0
 · rw [if_neg e]
   unfold tblM
   rw [List.take_add_one, h, List.find?_append]
   cases hx : (l.take k).find? (fun g => g.id == id) with
   | none =>
     have : (f.id == id) = false := by simpa using fun h => e h.symm
     simp [this]
   | some g => simp
/-- What Check says. -/
def chkA (c : Cg) : Nat :=
 if c.packets < 1 ∨ 4096 < c.packets ∨ c.bytes = 0 ∨ c.share < 0 ∨ 16 < c.share then 25
 else if Sh.mx / 2 ^ c.share.toNat < c.bytes then 25
 else if c.mtu < 1 ∨ 65535 < c.mtu then 26
 else Rnk.chkR 2 c.flows
theorem chkR_two (l : List Fl) : Rnk.chkR 2 l = if l.length = 0 ∨ 64 < l.length then 29 else if Sh.twice l = true then 30 else 0 := by
 unfold Rnk.chkR
 rw [if_neg (by omega)]
/-- The whole of it. -/
theorem chk_eq (c : Cg) : Sh.chk c = if c.rank < 1 ∨ 3 < c.rank ∨ c.back < 1 ∨ 3 < c.back then 22 else if c.levels < 1 ∨ 3 < c.levels then 23 else if c.queues < 1 ∨ 32 < c.queues then 24 else if chkA c ≠ 0 then chkA c else if c.rate = 0 then 27 else if c.burst < c.mtu then 28 else 0 := by
 have hA : chkA c = if c.packets < 1 ∨ 4096 < c.packets ∨ c.bytes = 0 ∨ c.share < 0 ∨ 16 < c.share then 25 else if Sh.mx / 2 ^ c.share.toNat < c.bytes then 25 else if c.mtu < 1 ∨ 65535 < c.mtu then 26 else if c.flows.length = 0 ∨ 64 < c.flows.length then 29 else if Sh.twice c.flows = true then 30 else 0 := by
  unfold chkA
  rw [chkR_two]
 unfold Sh.chk
 by_cases h1 : c.rank < 1 ∨ 3 < c.rank ∨ c.back < 1 ∨ 3 < c.back
 · rw [if_pos h1, if_pos h1]
 rw [if_neg h1, if_neg h1]
 by_cases h2 : c.levels < 1 ∨ 3 < c.levels
 · rw [if_pos h2, if_pos h2]
 rw [if_neg h2, if_neg h2]
 by_cases h3 : c.queues < 1 ∨ 32 < c.queues
 · rw [if_pos h3, if_pos h3]
 rw [if_neg h3, if_neg h3]
 by_cases h4 : c.packets < 1 ∨ 4096 < c.packets ∨ c.bytes = 0 ∨ c.share < 0 ∨ 16 < c.share
 · rw [if_pos h4] at hA ⊢; rw [hA]; rfl
 rw [if_neg h4] at hA ⊢
 by_cases h5 : Sh.mx / 2 ^ c.share.toNat < c.bytes
 · rw [if_pos h5] at hA ⊢; rw [hA]; rfl
 rw [if_neg h5] at hA ⊢
 by_cases h6 : c.mtu < 1 ∨ 65535 < c.mtu
 · rw [if_pos h6] at hA ⊢; rw [hA]; rfl
 rw [if_neg h6] at hA ⊢
 by_cases h7 : c.flows.length = 0 ∨ 64 < c.flows.length
 · rw [if_pos h7] at hA ⊢; rw [hA]; rfl
 rw [if_neg h7] at hA ⊢
 by_cases h8 : Sh.twice c.flows = true
 · rw [if_pos h8] at hA ⊢; rw [hA]; rfl
 rw [if_neg h8] at hA ⊢
 rw [hA]; rfl
theorem shl_le {a : Nat} {n : Int} (h0 : 0 ≤ n) (h1 : n ≤ 16) (ha : a ≤ 18446744073709551615) : Sat.shl a n = Sh.shl a n := by
 obtain ⟨k, rfl⟩ : ∃ k : Nat, n = k := ⟨n.toNat, by omega⟩
 have e : min k 64 = k := Nat.min_eq_left (by omega)
 unfold Sat.shl Sh.shl
 rw [Int.toNat_natCast, e]
 by_cases hk : k = 0
 · subst hk
   rw [if_pos (by omega), Nat.pow_zero, Nat.mul_one, Nat.min_eq_left ha]
 · rw [if_neg (by omega)]
end Go.Proofs.YtpgpjjkeginbbaaGreatDoor.Gt
namespace Go.Proofs.YtpgpjjkeginbbaaGreatDoor.Gt
open Go.RowKit Go.Proofs BigFrame
open Sh (Fl Cg)
open Tab (TM TO VO)
open Adm (VW)
set_option maxHeartbeats 4000000
set_option maxRecDepth 1000000
set_option linter.unusedSimpArgs false
/-- Whether a packet has room. -/
def fitsG (c : Cg) (p b : Nat) (m : Nat → Option Tab.Own) (id n : Nat) : Nat :=
 if n = 0 ∨ c.mtu < n then 12
 else match m id with
  | none => 13
  | some (_, x, y) => if c.packets ≤ (p : Int) then 14 else if c.bytes - b < n then 15 else if y < x ∨ y - x < n then 16 else 0
/-- Whether a packet may come in. -/
def mayG (c : Cg) (p b : Nat) (m : Nat → Option Tab.Own) (id n : Nat) : Nat :=
 if fitsG c p b m id n ≠ 0 then fitsG c p b m id n
 else match m id with
  | none => 0
  | some (_, x, _) => if Sh.shl (c.bytes - b) c.share ≤ x then 17 else 0
theorem mayG_eq (c : Cg) (s : Sh.St) (id n : Nat) : mayG c s.pk s.by_ s.own id n = Sh.mayIn c s id n := by
 unfold mayG fitsG Sh.mayIn
 by_cases h0 : n = 0 ∨ c.mtu < n
 · simp only [if_pos h0]; rfl
 · simp only [if_neg h0]
   cases s.own id with
   | none => rfl
   | some x =>
     obtain ⟨x, y, z⟩ := x
     dsimp only
     by_cases h1 : c.packets ≤ (s.pk : Int)
     · simp only [if_pos h1]; rfl
     · simp only [if_neg h1]
       by_cases h2 : c.bytes - s.by_ < n
       · simp only [if_pos h2]; rfl
       · simp only [if_neg h2]
         by_cases h3 : z < y ∨ z - y < n
         · simp only [if_pos h3]; rfl
         · simp only [if_neg h3]
           exact if_neg (by decide)
section
variable {w : World} {g p b n id len : Nat} {own : Nat → Prop} {c : Cg} {m : Nat → Option Tab.Own}
theorem fits_zero (_h : GM w g own c p b n m) : Calls Tryz.prog 142 #[.pointer (some ⟨g, 0, none⟩), .int .u32 id, .int .u64 (0 : Nat)] w fun e w' => e = .returned (.int .i64 12) ∧ Upd Nowhere w w' := by
 clear _h
 go_enter Tryz.func142, Tryz.ntmps142
 go_wp2_with fail
 go_ret
 exact ⟨rfl, Upd.refl _ _⟩
theorem fits_long (h : GM w g own c p b n m) (h0 : len ≠ 0) (h1 : c.mtu < len) : Calls Tryz.prog 142 #[.pointer (some ⟨g, 0, none⟩), .int .u32 id, .int .u64 len] w fun e w' => e = .returned (.int .i64 12) ∧ Upd Nowhere w w' := by
 obtain ⟨t, ownT, h2, _⟩ := h
 have k7 : w.cell? ⟨g, 7, none⟩ = some (.int .u64 (c.mtu : Nat)) := h2.cellAt rfl
 have d0 : ((len : Int) == 0) = false := by simp; omega
 have d1 : decide (c.mtu < len) = true := decide_eq_true h1
 clear h2 h0 h1
 go_enter Tryz.func142, Tryz.ntmps142
 go_wp2_with fail
 go_ret
 exact ⟨rfl, Upd.refl _ _⟩
theorem fits_none (h : GM w g own c p b n m) (h0 : len ≠ 0) (h1 : ¬ c.mtu < len) (hi : m id = none) : Calls Tryz.prog 142 #[.pointer (some ⟨g, 0, none⟩), .int .u32 id, .int .u64 len] w fun e w' => e = .returned (.int .i64 13) ∧ Upd Nowhere w w' := by
 obtain ⟨t, ownT, h2, h3, _⟩ := h
 have HG := Lib.hid (Tab.t_none h3 hi)
 have k7 : w.cell? ⟨g, 7, none⟩ = some (.int .u64 (c.mtu : Nat)) := h2.cellAt rfl
 have k13 : w.cell? ⟨g, 13, none⟩ = some (.pointer (some ⟨t, 0, none⟩)) := h2.cellAt rfl
 have d0 : ((len : Int) == 0) = false := by simp; omega
 have d1 : decide (c.mtu < len) = false := decide_eq_false h1
 clear h2 h0 h1 h3 hi
 go_enter Tryz.func142, Tryz.ntmps142
 go_wp2_with fail
 refine (HG.out).mono ?_
 rintro e w1 ⟨rfl, u1⟩
 go_wp2_with fail
 go_ret
 exact ⟨rfl, u1.alloc _⟩
theorem fits_some {x0 x1 x2 : Nat} (h : GM w g own c p b n m) (h0 : len ≠ 0) (h1 : ¬ c.mtu < len) (hi : m id = some (x0, x1, x2)) (hb : b ≤ c.bytes) (hby : c.bytes ≤ 18446744073709551615) (hx2 : x2 ≤ 18446744073709551615) :
 Calls Tryz.prog 142 #[.pointer (some ⟨g, 0, none⟩), .int .u32 id, .int .u64 len] w fun e w' => e = .returned (.int .i64 (if c.packets ≤ (p : Int) then 14 else if c.bytes - b < len then 15 else if x2 < x1 ∨ x2 - x1 < len then 16 else 0 : Nat)) ∧ Upd Nowhere w w' := by
 obtain ⟨t, ownT, h2, h3, _⟩ := h
 have HG := Lib.hid (Tab.t_some h3 hi)
 have k7 : w.cell? ⟨g, 7, none⟩ = some (.int .u64 (c.mtu : Nat)) := h2.cellAt rfl
 have k13 : w.cell? ⟨g, 13, none⟩ = some (.pointer (some ⟨t, 0, none⟩)) := h2.cellAt rfl
 have d0 : ((len : Int) == 0) = false := by simp; omega
 have d1 : decide (c.mtu < len) = false := decide_eq_false h1
 have eW : IntKind.u64.wrap ((c.bytes : Int) - (b : Int)) = ((c.bytes - b : Nat) : Int) := by rw [IntKind.wrap_u64]; omega
 obtain ⟨D, hD⟩ : ∃ D, c.bytes - b = D := ⟨_, rfl⟩
 rw [hD] at eW ⊢
 have H2 := Lib.hid h2
 clear hD hb hby h0 h1 h3 h2 hi
 rcases Classical.em (c.packets ≤ (p : Int)) with e2 | e2
 · rw [if_pos e2]
   have d2 : decide (c.packets ≤ (p : Int)) = true := decide_eq_true e2
   clear e2
   go_enter Tryz.func142, Tryz.ntmps142
   go_wp2_with fail
   refine (HG.out).mono ?_
   rintro e w1 ⟨rfl, u1⟩
   go_upto_region 6 with fail
   have hU : Upd Nowhere w (w1.alloc (.cells #[.int .i64 x0, .int .u64 x1, .int .u64 x2] TO)) := u1.alloc _
   generalize w1.alloc (.cells #[.int .i64 x0, .int .u64 x1, .int .u64 x2] TO) = wA at *
   have hG := H2.out.kept hU (fun h => h)
   have j4 : wA.cell? ⟨g, 4, none⟩ = some (.int .i64 c.packets) := hG.cellAt rfl
   have j11 : wA.cell? ⟨g, 11, none⟩ = some (.int .i64 (p : Nat)) := hG.cellAt rfl
   clear hG k7 k13
   go_wp2_with fail
   go_quiet (fail)
   go_wp2_with fail
   go_ret
   exact ⟨rfl, by first | exact hU.drewN _ | exact (hU.drewN _).drewN _⟩
 rw [if_neg e2]
 have d2 : decide (c.packets ≤ (p : Int)) = false := decide_eq_false e2
 clear e2
 rcases Classical.em (D < len) with e3 | e3
 · rw [if_pos e3]
   have d3 : decide (D < len) = true := decide_eq_true e3
   clear e3
   go_enter Tryz.func142, Tryz.ntmps142
   go_wp2_with fail
   refine (HG.out).mono ?_
   rintro e w1 ⟨rfl, u1⟩
   go_upto_region 6 with fail
   have hU : Upd Nowhere w (w1.alloc (.cells #[.int .i64 x0, .int .u64 x1, .int .u64 x2] TO)) := u1.alloc _
   generalize w1.alloc (.cells #[.int .i64 x0, .int .u64 x1, .int .u64 x2] TO) = wA at *
   have hG := H2.out.kept hU (fun h => h)
   have j4 : wA.cell? ⟨g, 4, none⟩ = some (.int .i64 c.packets) := hG.cellAt rfl
   have j5 : wA.cell? ⟨g, 5, none⟩ = some (.int .u64 (c.bytes : Nat)) := hG.cellAt rfl
   have j11 : wA.cell? ⟨g, 11, none⟩ = some (.int .i64 (p : Nat)) := hG.cellAt rfl
   have j12 : wA.cell? ⟨g, 12, none⟩ = some (.int .u64 (b : Nat)) := hG.cellAt rfl
   clear hG k7 k13
   go_wp2_with fail
   go_quiet (fail)
   go_wp2_with fail
   go_quiet (fail)
   go_wp2_with fail
   go_ret
   exact ⟨rfl, by first | exact hU.drewN _ | exact (hU.drewN _).drewN _⟩
 rw [if_neg e3]
 have d3 : decide (D < len) = false := decide_eq_false e3
 clear e3
 rcases Classical.em (x2 < x1) with e4 | e4
 · rw [if_pos (.inl e4)]
   have d4 : decide (x2 < x1) = true := decide_eq_true e4
   clear e4
   go_enter Tryz.func142, Tryz.ntmps142
   go_wp2_with fail
   refine (HG.out).mono ?_
   rintro e w1 ⟨rfl, u1⟩
   go_upto_region 6 with fail
   have hU : Upd Nowhere w (w1.alloc (.cells #[.int .i64 x0, .int .u64 x1, .int .u64 x2] TO)) := u1.alloc _
   obtain ⟨r0, r1, r2, _, _, _⟩ := cells3 (show Blk (w1.alloc (.cells #[.int .i64 x0, .int .u64 x1, .int .u64 x2] TO)) w1.heap.size #[.int .i64 x0, .int .u64 x1, .int .u64 x2] TO from Blk.new _ _ _)
   generalize w1.alloc (.cells #[.int .i64 x0, .int .u64 x1, .int .u64 x2] TO) = wA at *
   have hG := H2.out.kept hU (fun h => h)
   have j4 : wA.cell? ⟨g, 4, none⟩ = some (.int .i64 c.packets) := hG.cellAt rfl
   have j5 : wA.cell? ⟨g, 5, none⟩ = some (.int .u64 (c.bytes : Nat)) := hG.cellAt rfl
   have j11 : wA.cell? ⟨g, 11, none⟩ = some (.int .i64 (p : Nat)) := hG.cellAt rfl
   have j12 : wA.cell? ⟨g, 12, none⟩ = some (.int .u64 (b : Nat)) := hG.cellAt rfl
   clear hG k7 k13
   go_wp2_with fail
   go_quiet (fail)
   go_wp2_with fail
   go_quiet (fail)
   go_wp2_with fail
   go_ret
   exact ⟨rfl, by first | exact hU.drewN _ | exact (hU.drewN _).drewN _⟩
 have d4 : decide (x2 < x1) = false := decide_eq_false e4
 have eV : IntKind.u64.wrap ((x2 : Int) - (x1 : Int)) = ((x2 - x1 : Nat) : Int) := by rw [IntKind.wrap_u64]; omega
 obtain ⟨F, hF⟩ : ∃ F, x2 - x1 = F := ⟨_, rfl⟩
 rw [hF] at eV ⊢
 obtain ⟨B5, hB5⟩ : ∃ B5, decide (F < len) = B5 := ⟨_, rfl⟩
 have e5 : (if x2 < x1 ∨ F < len then 16 else 0 : Nat) = bif B5 then 16 else 0 := by
  rw [← hB5]
  by_cases h : F < len
  · rw [if_pos (.inr h), decide_eq_true h]; rfl
  · rw [if_neg (fun h' => h'.elim e4 h), decide_eq_false h]; rfl
 rw [e5]
 clear e4 hF e5 hx2
 cases B5
 · have e6 : (bif false then 16 else 0 : Nat) = 0 := rfl
   rw [e6]
   go_enter Tryz.func142, Tryz.ntmps142
   go_wp2_with fail
   refine (HG.out).mono ?_
   rintro e w1 ⟨rfl, u1⟩
   go_upto_region 6 with fail
   have hU : Upd Nowhere w (w1.alloc (.cells #[.int .i64 x0, .int .u64 x1, .int .u64 x2] TO)) := u1.alloc _
   obtain ⟨r0, r1, r2, _, _, _⟩ := cells3 (show Blk (w1.alloc (.cells #[.int .i64 x0, .int .u64 x1, .int .u64 x2] TO)) w1.heap.size #[.int .i64 x0, .int .u64 x1, .int .u64 x2] TO from Blk.new _ _ _)
   generalize w1.alloc (.cells #[.int .i64 x0, .int .u64 x1, .int .u64 x2] TO) = wA at *
   have hG := H2.out.kept hU (fun h => h)
   have j4 : wA.cell? ⟨g, 4, none⟩ = some (.int .i64 c.packets) := hG.cellAt rfl
   have j5 : wA.cell? ⟨g, 5, none⟩ = some (.int .u64 (c.bytes : Nat)) := hG.cellAt rfl
   have j11 : wA.cell? ⟨g, 11, none⟩ = some (.int .i64 (p : Nat)) := hG.cellAt rfl
   have j12 : wA.cell? ⟨g, 12, none⟩ = some (.int .u64 (b : Nat)) := hG.cellAt rfl
   clear hG k7 k13
   go_wp2_with fail
   go_quiet (fail)
   go_wp2_with fail
   go_quiet (fail)
   go_wp2_with fail
   go_ret
   exact ⟨rfl, by first | exact hU.drewN _ | exact (hU.drewN _).drewN _⟩
 · have e6 : (bif true then 16 else 0 : Nat) = 16 := rfl
   rw [e6]
   go_enter Tryz.func142, Tryz.ntmps142
   go_wp2_with fail
   refine (HG.out).mono ?_
   rintro e w1 ⟨rfl, u1⟩
   go_upto_region 6 with fail
   have hU : Upd Nowhere w (w1.alloc (.cells #[.int .i64 x0, .int .u64 x1, .int .u64 x2] TO)) := u1.alloc _
   obtain ⟨r0, r1, r2, _, _, _⟩ := cells3 (show Blk (w1.alloc (.cells #[.int .i64 x0, .int .u64 x1, .int .u64 x2] TO)) w1.heap.size #[.int .i64 x0, .int .u64 x1, .int .u64 x2] TO from Blk.new _ _ _)
   generalize w1.alloc (.cells #[.int .i64 x0, .int .u64 x1, .int .u64 x2] TO) = wA at *
   have hG := H2.out.kept hU (fun h => h)
   have j4 : wA.cell? ⟨g, 4, none⟩ = some (.int .i64 c.packets) := hG.cellAt rfl
   have j5 : wA.cell? ⟨g, 5, none⟩ = some (.int .u64 (c.bytes : Nat)) := hG.cellAt rfl
   have j11 : wA.cell? ⟨g, 11, none⟩ = some (.int .i64 (p : Nat)) := hG.cellAt rfl
   have j12 : wA.cell? ⟨g, 12, none⟩ = some (.int .u64 (b : Nat)) := hG.cellAt rfl
   clear hG k7 k13
   go_wp2_with fail
   go_quiet (fail)
   go_wp2_with fail
   go_quiet (fail)
   go_wp2_with fail
   go_ret
   exact ⟨rfl, by first | exact hU.drewN _ | exact (hU.drewN _).drewN _⟩
theorem fits_any (h : GM w g own c p b n m) (hb : b ≤ c.bytes) (hby : c.bytes ≤ 18446744073709551615) (hm : ∀ x0 x1 x2, m id = some (x0, x1, x2) → x2 ≤ 18446744073709551615) :
 Calls Tryz.prog 142 #[.pointer (some ⟨g, 0, none⟩), .int .u32 id, .int .u64 len] w fun e w' => e = .returned (.int .i64 (fitsG c p b m id len : Nat)) ∧ Upd Nowhere w w' := by
 unfold fitsG
 by_cases h0 : len = 0
 · subst h0
   rw [if_pos (.inl rfl)]
   exact fits_zero h
 by_cases h1 : c.mtu < len
 · rw [if_pos (.inr h1)]
   exact fits_long h h0 h1
 rw [if_neg (fun h => h.elim h0 h1)]
 cases hi : m id with
 | none => exact fits_none h h0 h1 hi
 | some x =>
   obtain ⟨x0, x1, x2⟩ := x
   exact fits_some h h0 h1 hi hb hby (hm _ _ _ hi)
end
end Go.Proofs.YtpgpjjkeginbbaaGreatDoor.Gt
namespace Go.Proofs.YtpgpjjkeginbbaaGreatDoor.Gt
open Go.RowKit Go.Proofs BigFrame
open Sh (Fl Cg)
open Tab (TM TO VO)
open Adm (VW)
set_option maxHeartbeats 4000000
set_option maxRecDepth 1000000
set_option linter.unusedSimpArgs false
section
variable {w : World} {g p b n id len : Nat} {own : Nat → Prop} {c : Cg} {m : Nat → Option Tab.Own}
theorem may_any (h : GM w g own c p b n m) (hb : b ≤ c.bytes) (hby : c.bytes ≤ 18446744073709551615) (hm : ∀ x0 x1 x2, m id = some (x0, x1, x2) → x2 ≤ 18446744073709551615) (hs0 : 0 ≤ c.share) (hs1 : c.share ≤ 16) :
 Calls Tryz.prog 106 #[.pointer (some ⟨g, 0, none⟩), .int .u32 id, .int .u64 len] w fun e w' => e = .returned (.int .i64 (mayG c p b m id len : Nat)) ∧ Upd Nowhere w w' := by
 have hF := fits_any (len := len) h hb hby hm
 have hf0 : fitsG c p b m id len = 0 → ∃ x, m id = some x := fun h0 => by
  unfold fitsG at h0
  split at h0
  · cases h0
  · cases hi : m id with
    | none => rw [hi] at h0; cases h0
    | some x => exact ⟨x, rfl⟩
 unfold mayG
 generalize fitsG c p b m id len = f at *
 have HF := Lib.hid hF
 clear hF
 by_cases e0 : f = 0
 · subst e0
   obtain ⟨⟨x0, x1, x2⟩, hi⟩ := hf0 rfl
   rw [if_neg (by omega), hi]
   dsimp only
   obtain ⟨t, ownT, h2, h3, _⟩ := h
   have HG := fun u (hu : Upd Nowhere w u) => Lib.hid (Tab.t_some (h3.old hu) hi)
   have eW : IntKind.u64.wrap ((c.bytes : Int) - (b : Int)) = ((c.bytes - b : Nat) : Int) := by rw [IntKind.wrap_u64]; omega
   have hS := fun u => Sat.sat_shift (c.bytes - b) c.share (by omega) (by omega) (by omega) u
   rw [shl_le hs0 hs1 (by omega)] at hS
   obtain ⟨S, hS2⟩ : ∃ S, Sh.shl (c.bytes - b) c.share = S := ⟨_, rfl⟩
   rw [hS2] at hS ⊢
   generalize c.bytes - b = D at *
   have HS := fun u => Lib.hid (hS u)
   have H2 := Lib.hid h2
   clear hS hS2 hm hb hby hs0 hs1 h2 h3 hi hf0
   rcases Classical.em (S ≤ x1) with e5 | e5
   · rw [if_pos e5]
     have d5 : decide (S ≤ x1) = true := decide_eq_true e5
     clear e5
     go_enter Tryz.func106, Tryz.ntmps106
     go_wp2_with fail
     refine (HF.out).mono ?_
     rintro e w0 ⟨rfl, u0⟩
     have k13 : w0.cell? ⟨g, 13, none⟩ = some (.pointer (some ⟨t, 0, none⟩)) := (H2.out.kept u0 (fun h => h)).cellAt rfl
     go_wp2_with fail
     refine ((HG _ u0).out).mono ?_
     rintro e w1 ⟨rfl, u1⟩
     go_upto_region 5 with fail
     have hU : Upd Nowhere w (w1.alloc (.cells #[.int .i64 x0, .int .u64 x1, .int .u64 x2] TO)) := (u0.trans u1 (fun _ _ h => h)).alloc _
     obtain ⟨r0, r1, r2, _, _, _⟩ := cells3 (show Blk (w1.alloc (.cells #[.int .i64 x0, .int .u64 x1, .int .u64 x2] TO)) w1.heap.size #[.int .i64 x0, .int .u64 x1, .int .u64 x2] TO from Blk.new _ _ _)
     generalize w1.alloc (.cells #[.int .i64 x0, .int .u64 x1, .int .u64 x2] TO) = wA at *
     have hG := H2.out.kept hU (fun h => h)
     have j5 : wA.cell? ⟨g, 5, none⟩ = some (.int .u64 (c.bytes : Nat)) := hG.cellAt rfl
     have j6 : wA.cell? ⟨g, 6, none⟩ = some (.int .i64 c.share) := hG.cellAt rfl
     have j12 : wA.cell? ⟨g, 12, none⟩ = some (.int .u64 (b : Nat)) := hG.cellAt rfl
     clear hG k13
     go_wp2_with fail
     go_quiet ((go_at_call 143; exact quiet_same (HS _).out))
     go_wp2_with fail
     go_ret
     exact ⟨rfl, hU.drewN _⟩
   · rw [if_neg e5]
     have d5 : decide (S ≤ x1) = false := decide_eq_false e5
     clear e5
     go_enter Tryz.func106, Tryz.ntmps106
     go_wp2_with fail
     refine (HF.out).mono ?_
     rintro e w0 ⟨rfl, u0⟩
     have k13 : w0.cell? ⟨g, 13, none⟩ = some (.pointer (some ⟨t, 0, none⟩)) := (H2.out.kept u0 (fun h => h)).cellAt rfl
     go_wp2_with fail
     refine ((HG _ u0).out).mono ?_
     rintro e w1 ⟨rfl, u1⟩
     go_upto_region 5 with fail
     have hU : Upd Nowhere w (w1.alloc (.cells #[.int .i64 x0, .int .u64 x1, .int .u64 x2] TO)) := (u0.trans u1 (fun _ _ h => h)).alloc _
     obtain ⟨r0, r1, r2, _, _, _⟩ := cells3 (show Blk (w1.alloc (.cells #[.int .i64 x0, .int .u64 x1, .int .u64 x2] TO)) w1.heap.size #[.int .i64 x0, .int .u64 x1, .int .u64 x2] TO from Blk.new _ _ _)
     generalize w1.alloc (.cells #[.int .i64 x0, .int .u64 x1, .int .u64 x2] TO) = wA at *
     have hG := H2.out.kept hU (fun h => h)
     have j5 : wA.cell? ⟨g, 5, none⟩ = some (.int .u64 (c.bytes : Nat)) := hG.cellAt rfl
     have j6 : wA.cell? ⟨g, 6, none⟩ = some (.int .i64 c.share) := hG.cellAt rfl
     have j12 : wA.cell? ⟨g, 12, none⟩ = some (.int .u64 (b : Nat)) := hG.cellAt rfl
     clear hG k13
     go_wp2_with fail
     go_quiet ((go_at_call 143; exact quiet_same (HS _).out))
     go_wp2_with fail
     go_ret
     exact ⟨rfl, hU.drewN _⟩
 · rw [if_pos e0]
   have d0 : ((f : Int) != 0) = true := by simp; omega
   have d0' : ((f : Int) == 0) = false := by simp; omega
   clear e0 h hf0 hm hb hby hs0 hs1
   go_enter Tryz.func106, Tryz.ntmps106
   go_wp2_with fail
   refine (HF.out).mono ?_
   rintro e w0 ⟨rfl, u0⟩
   go_wp2_with fail
   go_ret
   exact ⟨rfl, u0⟩
theorem inn_no (h : GM w g own c p b n m) (hb : b ≤ c.bytes) (hby : c.bytes ≤ 18446744073709551615) (hm : ∀ x0 x1 x2, m id = some (x0, x1, x2) → x2 ≤ 18446744073709551615) (hs0 : 0 ≤ c.share) (hs1 : c.share ≤ 16) (hn : mayG c p b m id len ≠ 0) :
 Calls Tryz.prog 64 #[.pointer (some ⟨g, 0, none⟩), .int .u32 id, .int .u64 len] w fun e w' => e = .returned (.int .i64 (mayG c p b m id len : Nat)) ∧ Upd Nowhere w w' := by
 have HF := Lib.hid (may_any (len := len) h hb hby hm hs0 hs1)
 generalize mayG c p b m id len = f at *
 have d0 : ((f : Int) != 0) = true := by simp; omega
 have d0' : ((f : Int) == 0) = false := by simp; omega
 clear hn h hm hb hby hs0 hs1
 go_enter Tryz.func64, Tryz.ntmps64
 go_wp2_with fail
 refine (HF.out).mono ?_
 rintro e w0 ⟨rfl, u0⟩
 go_wp2_with fail
 go_ret
 exact ⟨rfl, u0⟩
theorem GM.old {w' : World} (h : GM w g own c p b n m) (hu : Upd Nowhere w w') : GM w' g own c p b n m := h.kept hu (fun _ _ h => h)
theorem inn_yes {x0 x1 x2 : Nat} (h : GM w g own c p b n m) (hb : b ≤ c.bytes) (hby : c.bytes ≤ 18446744073709551615) (hi : m id = some (x0, x1, x2)) (hx2 : x2 ≤ 18446744073709551615) (hs0 : 0 ≤ c.share) (hs1 : c.share ≤ 16) (hn : mayG c p b m id len = 0)
 (hx0 : x0 ≤ 4096) (hx1 : x1 + len ≤ 18446744073709551615) (hp : p ≤ 4096) (hbl : b + len ≤ 18446744073709551615) :
 Calls Tryz.prog 64 #[.pointer (some ⟨g, 0, none⟩), .int .u32 id, .int .u64 len] w fun e w' => e = .returned (.int .i64 0) ∧ GM w' g own c (p + 1) (b + len) n (Tab.upm m id (x0 + 1, x1 + len, x2)) ∧ Upd own w w' := by
 have hF := may_any (len := len) h hb hby (fun y0 y1 y2 e => by rw [hi] at e; cases e; exact hx2) hs0 hs1
 rw [hn] at hF
 have HF := Lib.hid hF
 have HN := fun u (hu : Upd Nowhere w u) => Lib.hid (in_any (h.old hu) hi hx0 hx1 hp hbl)
 clear hn h hb hby hs0 hs1 hi hx0 hx1 hp hbl hF
 go_enter Tryz.func64, Tryz.ntmps64
 go_wp2_with fail
 refine (HF.out).mono ?_
 rintro e w0 ⟨rfl, u0⟩
 go_wp2_with fail
 refine ((HN _ u0).out).mono ?_
 rintro e w1 ⟨rfl, h1, u1⟩
 have HR : Hid (GM w1 g own c (p + 1) (b + len) n (Tab.upm m id (x0 + 1, x1 + len, x2)) ∧ Upd own w w1) := Lib.hid ⟨h1, (u0.any _).trans u1 (fun _ _ h => h)⟩
 clear h1 u0 u1
 go_wp2_with fail
 go_ret
 exact ⟨rfl, HR.out.1, HR.out.2⟩
end
end Go.Proofs.YtpgpjjkeginbbaaGreatDoor.Gt
namespace Go.Proofs.YtpgpjjkeginbbaaGreatDoor.Gt
open Go.RowKit Go.Proofs BigFrame
open Sh (Fl Cg)
open Rnk (FlsIn chkR)
set_option maxHeartbeats 4000000
set_option maxRecDepth 1000000
set_option linter.unusedSimpArgs false
abbrev TCg : TypeId := 35
/-- A configuration's cells, as a block has them. -/
theorem cgs {w : World} {k : Nat} {c : Cg} {fv : Value} (h : Blk w k (VC c fv) TCg) : w.cell? ⟨k, 0, none⟩ = some (.int .i64 c.rank) ∧ w.cell? ⟨k, 1, none⟩ = some (.int .i64 c.back) ∧ w.cell? ⟨k, 2, none⟩ = some (.int .i64 c.levels) ∧ w.cell? ⟨k, 3, none⟩ = some (.int .i64 c.queues) ∧ w.cell? ⟨k, 4, none⟩ = some (.int .i64 c.packets) ∧ w.cell? ⟨k, 5, none⟩ = some (.int .u64 (c.bytes : Nat)) ∧ w.cell? ⟨k, 6, none⟩ = some (.int .i64 c.share) ∧ w.cell? ⟨k, 7, none⟩ = some (.int .u64 (c.mtu : Nat)) ∧ w.cell? ⟨k, 8, none⟩ = some (.int .u64 (c.rate : Nat)) ∧ w.cell? ⟨k, 9, none⟩ = some (.int .u64 (c.burst : Nat)) ∧ w.cell? ⟨k, 10, none⟩ = some fv :=
 ⟨h.cellAt rfl, h.cellAt rfl, h.cellAt rfl, h.cellAt rfl, h.cellAt rfl, h.cellAt rfl, h.cellAt rfl, h.cellAt rfl, h.cellAt rfl, h.cellAt rfl, h.cellAt rfl⟩
theorem shr_cast (k : Nat) : ∃ S : Nat, 18446744073709551615 / 2 ^ k = S ∧ (18446744073709551615 : Int) / 2 ^ k = (S : Int) := ⟨_, rfl, by simp⟩
section
variable {w : World} {c : Cg} {ad : Option Addr} {n cp : Nat}
theorem checkA_caps (h : c.packets < 1 ∨ 4096 < c.packets ∨ c.bytes = 0 ∨ c.share < 0 ∨ 16 < c.share) : Calls Tryz.prog 51 #[.agg (VC c (.slice ad n cp))] w fun e w' => e = .returned (.int .i64 25) ∧ Upd Nowhere w w' := by
 rcases Classical.em (c.packets < 1) with h1 | h1
 · have d1 : decide (c.packets < 1) = true := decide_eq_true h1
   clear h h1
   go_enter Tryz.func51, Tryz.ntmps51
   go_wp2_with fail
   go_ret
   exact ⟨rfl, (Upd.refl _ _).alloc _⟩
 have d1 : decide (c.packets < 1) = false := decide_eq_false h1
 rcases Classical.em (4096 < c.packets) with h2 | h2
 · have d2 : decide (4096 < c.packets) = true := decide_eq_true h2
   clear h h1 h2
   go_enter Tryz.func51, Tryz.ntmps51
   go_wp2_with fail
   go_ret
   exact ⟨rfl, (Upd.refl _ _).alloc _⟩
 have d2 : decide (4096 < c.packets) = false := decide_eq_false h2
 rcases Classical.em (c.bytes = 0) with h3 | h3
 · have d3 : ((c.bytes : Int) == 0) = true := by simp; omega
   clear h h1 h2 h3
   go_enter Tryz.func51, Tryz.ntmps51
   go_wp2_with fail
   go_ret
   exact ⟨rfl, (Upd.refl _ _).alloc _⟩
 have d3 : ((c.bytes : Int) == 0) = false := by simp; omega
 rcases Classical.em (c.share < 0) with h4 | h4
 · have d4 : decide (c.share < 0) = true := decide_eq_true h4
   clear h h1 h2 h3 h4
   go_enter Tryz.func51, Tryz.ntmps51
   go_wp2_with fail
   go_ret
   exact ⟨rfl, (Upd.refl _ _).alloc _⟩
 have d4 : decide (c.share < 0) = false := decide_eq_false h4
 have d5 : decide (16 < c.share) = true := decide_eq_true (by omega)
 clear h h1 h2 h3 h4
 go_enter Tryz.func51, Tryz.ntmps51
 go_wp2_with fail
 go_ret
 exact ⟨rfl, (Upd.refl _ _).alloc _⟩
theorem checkA_over {k : Nat} (hk : c.share = (k : Int)) (hk2 : k ≤ 16) (h1 : ¬ c.packets < 1) (h2 : ¬ 4096 < c.packets) (h3 : c.bytes ≠ 0) (h : 18446744073709551615 / 2 ^ k < c.bytes) : Calls Tryz.prog 51 #[.agg (VC c (.slice ad n cp))] w fun e w' => e = .returned (.int .i64 25) ∧ Upd Nowhere w w' := by
 have d1 : decide (c.packets < 1) = false := decide_eq_false h1
 have d2 : decide (4096 < c.packets) = false := decide_eq_false h2
 have d3 : ((c.bytes : Int) == 0) = false := by simp; omega
 have d4 : decide (c.share < 0) = false := decide_eq_false (by omega)
 have d5 : decide (16 < c.share) = false := decide_eq_false (by omega)
 obtain ⟨S, hS1, hS2⟩ := shr_cast k
 rw [hS1] at h
 have d6 : decide (S < c.bytes) = true := decide_eq_true h
 clear hS1
 rw [hk] at d4 d5
 clear h h1 h2 h3
 have hk3 : k < 64 := by omega
 go_enter Tryz.func51, Tryz.ntmps51
 go_upto_region 3 with fail
 go_quiet (fail)
 go_wp2_with fail
 go_ret
 exact ⟨rfl, ((Upd.refl _ _).alloc _).drewN _⟩
theorem checkA_mtu {k : Nat} (hk : c.share = (k : Int)) (hk2 : k ≤ 16) (h1 : ¬ c.packets < 1) (h2 : ¬ 4096 < c.packets) (h3 : c.bytes ≠ 0) (h : ¬ 18446744073709551615 / 2 ^ k < c.bytes) (h4 : c.mtu < 1 ∨ 65535 < c.mtu) : Calls Tryz.prog 51 #[.agg (VC c (.slice ad n cp))] w fun e w' => e = .returned (.int .i64 26) ∧ Upd Nowhere w w' := by
 have d1 : decide (c.packets < 1) = false := decide_eq_false h1
 have d2 : decide (4096 < c.packets) = false := decide_eq_false h2
 have d3 : ((c.bytes : Int) == 0) = false := by simp; omega
 have d4 : decide (c.share < 0) = false := decide_eq_false (by omega)
 have d5 : decide (16 < c.share) = false := decide_eq_false (by omega)
 obtain ⟨S, hS1, hS2⟩ := shr_cast k
 rw [hS1] at h
 have d6 : decide (S < c.bytes) = false := decide_eq_false h
 clear hS1
 rw [hk] at d4 d5
 clear h h1 h2 h3
 have hk3 : k < 64 := by omega
 rcases Classical.em (c.mtu < 1) with h5 | h5
 · have d7 : decide (c.mtu < 1) = true := decide_eq_true h5
   have d7' : decide ((c.mtu : Int) < 1) = true := decide_eq_true (by omega)
   clear h4 h5
   go_enter Tryz.func51, Tryz.ntmps51
   go_upto_region 3 with fail
   go_quiet (fail)
   go_wp2_with fail
   go_ret
   exact ⟨rfl, ((Upd.refl _ _).alloc _).drewN _⟩
 · have d7 : decide (c.mtu < 1) = false := decide_eq_false h5
   have d7' : decide ((c.mtu : Int) < 1) = false := decide_eq_false (by omega)
   have d8 : decide (65535 < c.mtu) = true := decide_eq_true (by omega)
   have d8' : decide (65535 < (c.mtu : Int)) = true := decide_eq_true (by omega)
   clear h4 h5
   go_enter Tryz.func51, Tryz.ntmps51
   go_upto_region 3 with fail
   go_quiet (fail)
   go_wp2_with fail
   go_ret
   exact ⟨rfl, ((Upd.refl _ _).alloc _).drewN _⟩
/-- The flows decide. -/
theorem checkA_fls {k v : Nat} (hk : c.share = (k : Int)) (hk2 : k ≤ 16) (h1 : ¬ c.packets < 1) (h2 : ¬ 4096 < c.packets) (h3 : c.bytes ≠ 0) (h : ¬ 18446744073709551615 / 2 ^ k < c.bytes) (h4 : ¬ c.mtu < 1) (h5 : ¬ 65535 < c.mtu)
 (HR : ∀ u, Upd Nowhere w u → Hid (Calls Tryz.prog 24 #[.int .i64 2, .slice ad n cp] u fun e w' => ∃ P, e = .returned (.tuple #[.pointer P, .int .i64 (v : Nat)]) ∧ Upd Nowhere u w')) :
 Calls Tryz.prog 51 #[.agg (VC c (.slice ad n cp))] w fun e w' => e = .returned (.int .i64 (v : Nat)) ∧ Upd Nowhere w w' := by
 have d1 : decide (c.packets < 1) = false := decide_eq_false h1
 have d2 : decide (4096 < c.packets) = false := decide_eq_false h2
 have d3 : ((c.bytes : Int) == 0) = false := by simp; omega
 have d4 : decide (c.share < 0) = false := decide_eq_false (by omega)
 have d5 : decide (16 < c.share) = false := decide_eq_false (by omega)
 obtain ⟨S, hS1, hS2⟩ := shr_cast k
 rw [hS1] at h
 have d6 : decide (S < c.bytes) = false := decide_eq_false h
 clear hS1
 rw [hk] at d4 d5
 have d7 : decide (c.mtu < 1) = false := decide_eq_false h4
 have d7' : decide ((c.mtu : Int) < 1) = false := decide_eq_false (by omega)
 have d8 : decide (65535 < c.mtu) = false := decide_eq_false h5
 have d8' : decide (65535 < (c.mtu : Int)) = false := decide_eq_false (by omega)
 clear h h1 h2 h3 h4 h5
 have hk3 : k < 64 := by omega
 have hU0 : ∀ j, Upd Nowhere w ((w.alloc (.cells (VC c (.slice ad n cp)) TCg)).drewN j) := fun j => ((Upd.refl _ _).alloc _).drewN _
 have HC := fun j => HR _ (hU0 j)
 clear HR
 go_enter Tryz.func51, Tryz.ntmps51
 go_upto_region 3 with fail
 go_quiet (fail)
 go_wp2_with fail
 refine (HC _).out.mono ?_
 rintro e w1 ⟨P, rfl, u1⟩
 go_wp2_with fail
 go_ret
 exact ⟨rfl, (hU0 _).trans u1 (fun _ _ h => h)⟩
theorem checkA_any (hn : c.flows.length = n) (hl : n ≤ 65536) (hf : FlsIn w ad c.flows) : Calls Tryz.prog 51 #[.agg (VC c (.slice ad n cp))] w fun e w' => e = .returned (.int .i64 (chkA c : Nat)) ∧ Upd Nowhere w w' := by
 unfold chkA
 by_cases h1 : c.packets < 1 ∨ 4096 < c.packets ∨ c.bytes = 0 ∨ c.share < 0 ∨ 16 < c.share
 · rw [if_pos h1]; exact checkA_caps h1
 rw [if_neg h1]
 obtain ⟨k, hk⟩ : ∃ k : Nat, c.share = k := ⟨c.share.toNat, by omega⟩
 have hk2 : c.share.toNat = k := by omega
 rw [hk2]
 by_cases h2 : Sh.mx / 2 ^ k < c.bytes
 · rw [if_pos h2]; exact checkA_over hk (by omega) (by omega) (by omega) (by omega) h2
 rw [if_neg h2]
 by_cases h3 : c.mtu < 1 ∨ 65535 < c.mtu
 · rw [if_pos h3]; exact checkA_mtu hk (by omega) (by omega) (by omega) (by omega) h2 h3
 rw [if_neg h3]
 refine checkA_fls hk (by omega) (by omega) (by omega) (by omega) h2 (by omega) (by omega) (fun u hu => Lib.hid ?_)
 by_cases h4 : chkR 2 c.flows = 0
 · rw [h4]
   unfold chkR at h4
   rw [if_neg (by omega), hn] at h4
   by_cases h5 : n = 0 ∨ 64 < n
   · rw [if_pos h5] at h4; cases h4
   rw [if_neg h5] at h4
   cases ht : Sh.twice c.flows with
   | true => rw [ht] at h4; cases h4
   | false =>
     obtain ⟨f, hf0⟩ : ∃ f, c.flows[0]? = some f := ⟨c.flows[0]'(by omega), by simp⟩
     obtain ⟨g, o, rfl, _⟩ := hf 0 f hf0
     refine (Rnk.new_ok (c := cp) hn (by omega) (by omega) (by omega) (by omega) ht (hf.old hu)).mono ?_
     rintro e w' ⟨r, gf, gt, cf, ct, rfl, _, _, _, _, hu'⟩
     exact ⟨_, rfl, hu'⟩
 · refine (Rnk.new_no (c := cp) hn hl (hf.old hu) h4).mono ?_
   rintro e w' ⟨rfl, hu'⟩
   exact ⟨_, rfl, hu'⟩
end
end Go.Proofs.YtpgpjjkeginbbaaGreatDoor.Gt
namespace Go.Proofs.YtpgpjjkeginbbaaGreatDoor.Gt
open Go.RowKit Go.Proofs BigFrame
open Sh (Fl Cg)
open Rnk (FlsIn chkR)
set_option maxHeartbeats 4000000
set_option maxRecDepth 1000000
set_option linter.unusedSimpArgs false
section
variable {w : World} {c : Cg} {ad : Option Addr} {n cp : Nat}
theorem check_any (hn : c.flows.length = n) (hl : n ≤ 65536) (hf : FlsIn w ad c.flows) : Calls Tryz.prog 21 #[.agg (VC c (.slice ad n cp))] w fun e w' => e = .returned (.int .i64 (Sh.chk c : Nat)) ∧ Upd Nowhere w w' := by
 have HA := fun u (hu : Upd Nowhere w u) => Lib.hid (checkA_any (cp := cp) hn hl (hf.old hu))
 rw [chk_eq]
 generalize chkA c = a at *
 clear hn hl hf
 by_cases h1 : c.rank < 1
 · rw [if_pos (by omega)]
   have d1 : decide (c.rank < 1) = true := decide_eq_true h1
   clear HA h1
   go_enter Tryz.func21, Tryz.ntmps21
   go_wp2_with fail
   go_ret
   exact ⟨rfl, (Upd.refl _ _).alloc _⟩
 have d1 : decide (c.rank < 1) = false := decide_eq_false h1
 by_cases h2 : 3 < c.rank
 · rw [if_pos (by omega)]
   have d2 : decide (3 < c.rank) = true := decide_eq_true h2
   clear HA h1 h2
   go_enter Tryz.func21, Tryz.ntmps21
   go_wp2_with fail
   go_ret
   exact ⟨rfl, (Upd.refl _ _).alloc _⟩
 have d2 : decide (3 < c.rank) = false := decide_eq_false h2
 by_cases h3 : c.back < 1
 · rw [if_pos (by omega)]
   have d3 : decide (c.back < 1) = true := decide_eq_true h3
   clear HA h1 h2 h3
   go_enter Tryz.func21, Tryz.ntmps21
   go_wp2_with fail
   go_ret
   exact ⟨rfl, (Upd.refl _ _).alloc _⟩
 have d3 : decide (c.back < 1) = false := decide_eq_false h3
 by_cases h4 : 3 < c.back
 · rw [if_pos (by omega)]
   have d4 : decide (3 < c.back) = true := decide_eq_true h4
   clear HA h1 h2 h3 h4
   go_enter Tryz.func21, Tryz.ntmps21
   go_wp2_with fail
   go_ret
   exact ⟨rfl, (Upd.refl _ _).alloc _⟩
 have d4 : decide (3 < c.back) = false := decide_eq_false h4
 by_cases h5 : c.levels < 1
 · rw [if_neg (by omega), if_pos (by omega)]
   have d5 : decide (c.levels < 1) = true := decide_eq_true h5
   clear HA h1 h2 h3 h4 h5
   go_enter Tryz.func21, Tryz.ntmps21
   go_wp2_with fail
   go_ret
   exact ⟨rfl, (Upd.refl _ _).alloc _⟩
 have d5 : decide (c.levels < 1) = false := decide_eq_false h5
 by_cases h6 : 3 < c.levels
 · rw [if_neg (by omega), if_pos (by omega)]
   have d6 : decide (3 < c.levels) = true := decide_eq_true h6
   clear HA h1 h2 h3 h4 h5 h6
   go_enter Tryz.func21, Tryz.ntmps21
   go_wp2_with fail
   go_ret
   exact ⟨rfl, (Upd.refl _ _).alloc _⟩
 have d6 : decide (3 < c.levels) = false := decide_eq_false h6
 by_cases h7 : c.queues < 1
 · rw [if_neg (by omega), if_neg (by omega), if_pos (by omega)]
   have d7 : decide (c.queues < 1) = true := decide_eq_true h7
   clear HA h1 h2 h3 h4 h5 h6 h7
   go_enter Tryz.func21, Tryz.ntmps21
   go_wp2_with fail
   go_ret
   exact ⟨rfl, (Upd.refl _ _).alloc _⟩
 have d7 : decide (c.queues < 1) = false := decide_eq_false h7
 by_cases h8 : 32 < c.queues
 · rw [if_neg (by omega), if_neg (by omega), if_pos (by omega)]
   have d8 : decide (32 < c.queues) = true := decide_eq_true h8
   clear HA h1 h2 h3 h4 h5 h6 h7 h8
   go_enter Tryz.func21, Tryz.ntmps21
   go_wp2_with fail
   go_ret
   exact ⟨rfl, (Upd.refl _ _).alloc _⟩
 have d8 : decide (32 < c.queues) = false := decide_eq_false h8
 rw [if_neg (by omega), if_neg (by omega), if_neg (by omega)]
 clear h1 h2 h3 h4 h5 h6 h7 h8
 have hU0 : Upd Nowhere w (w.alloc (.cells (VC c (.slice ad n cp)) TCg)) := (Upd.refl _ _).alloc _
 have HC := HA _ hU0
 have HB : Hid (Blk (w.alloc (.cells (VC c (.slice ad n cp)) TCg)) w.heap.size (VC c (.slice ad n cp)) TCg) := Lib.hid (Blk.new _ _ _)
 clear HA
 by_cases e0 : a = 0
 · subst e0
   rw [if_neg (by omega)]
   by_cases h9 : c.rate = 0
   · rw [if_pos h9]
     have d9 : ((c.rate : Int) == 0) = true := by simp; omega
     clear h9
     go_enter Tryz.func21, Tryz.ntmps21
     go_wp2_with fail
     refine (HC.out).mono ?_
     rintro e w1 ⟨rfl, u1⟩
     have hB := HB.out.kept u1 (fun h => h)
     obtain ⟨q0, q1, q2, q3, q4, q5, q6, q7, q8, q9, q10⟩ := cgs hB
     have HU := Lib.hid (hU0.trans u1 (fun _ _ h => h))
     clear hB u1
     go_wp2_with fail
     go_ret
     exact ⟨rfl, HU.out⟩
   rw [if_neg h9]
   have d9 : ((c.rate : Int) == 0) = false := by simp; omega
   by_cases h10 : c.burst < c.mtu
   · rw [if_pos h10]
     have d10 : decide (c.burst < c.mtu) = true := decide_eq_true h10
     clear h9 h10
     go_enter Tryz.func21, Tryz.ntmps21
     go_wp2_with fail
     refine (HC.out).mono ?_
     rintro e w1 ⟨rfl, u1⟩
     have hB := HB.out.kept u1 (fun h => h)
     obtain ⟨q0, q1, q2, q3, q4, q5, q6, q7, q8, q9, q10⟩ := cgs hB
     have HU := Lib.hid (hU0.trans u1 (fun _ _ h => h))
     clear hB u1
     go_wp2_with fail
     (try (go_quiet (fail)))
     go_wp2_with fail
     go_ret
     exact ⟨rfl, by first | exact HU.out | exact HU.out.drewN _⟩
   rw [if_neg h10]
   have d10 : decide (c.burst < c.mtu) = false := decide_eq_false h10
   clear h9 h10
   go_enter Tryz.func21, Tryz.ntmps21
   go_wp2_with fail
   refine (HC.out).mono ?_
   rintro e w1 ⟨rfl, u1⟩
   have hB := HB.out.kept u1 (fun h => h)
   obtain ⟨q0, q1, q2, q3, q4, q5, q6, q7, q8, q9, q10⟩ := cgs hB
   have HU := Lib.hid (hU0.trans u1 (fun _ _ h => h))
   clear hB u1
   go_wp2_with fail
   (try (go_quiet (fail)))
   go_wp2_with fail
   go_ret
   exact ⟨rfl, by first | exact HU.out | exact HU.out.drewN _⟩
 · rw [if_pos e0]
   have d0 : ((a : Int) != 0) = true := by simp; omega
   have d0' : ((a : Int) == 0) = false := by simp; omega
   clear e0
   go_enter Tryz.func21, Tryz.ntmps21
   go_wp2_with fail
   refine (HC.out).mono ?_
   rintro e w1 ⟨rfl, u1⟩
   go_wp2_with fail
   go_ret
   exact ⟨rfl, hU0.trans u1 (fun _ _ h => h)⟩
end
end Go.Proofs.YtpgpjjkeginbbaaGreatDoor.Gt
namespace Go.Proofs.YtpgpjjkeginbbaaGreatDoor.Gt
open Go.RowKit Go.Proofs BigFrame
open Sh (Fl Cg)
open Rnk (FlsIn chkR TFl)
open Tab (TM VO tabC)
set_option maxHeartbeats 8000000
set_option maxRecDepth 1000000
set_option linter.unusedSimpArgs false
theorem chkA_ok {c : Cg} (h : chkA c = 0) : 1 ≤ c.flows.length ∧ c.flows.length ≤ 64 ∧ Sh.twice c.flows = false ∧ 1 ≤ c.packets ∧ c.packets ≤ 4096 ∧ 0 ≤ c.share ∧ c.share ≤ 16 ∧ 1 ≤ c.mtu ∧ c.mtu ≤ 65535 := by
 unfold chkA at h
 rw [chkR_two] at h
 split at h
 · cases h
 · split at h
   · cases h
   · split at h
     · cases h
     · split at h
       · cases h
       · split at h
         · cases h
         · rename_i h1 h2 h3 h4 h5
           exact ⟨by omega, by omega, by simpa using h5, by omega, by omega, by omega, by omega, by omega, by omega⟩
theorem gnew_ok {w : World} {c : Cg} {ad : Option Addr} {n cp : Nat} (hn : c.flows.length = n) (hc : chkA c = 0) (hf : FlsIn w ad c.flows) :
 Calls Tryz.prog 23 #[.agg (VC c (.slice ad n cp))] w fun e w' => ∃ g own, e = .returned (.tuple #[.pointer (some ⟨g, 0, none⟩), .int .i64 0]) ∧ GM w' g own c 0 0 n (tblM c.flows n) ∧ (∀ k, own k → w.heap.size ≤ k) ∧ Upd Nowhere w w' := by
 obtain ⟨h1, h64, ht, _⟩ := chkA_ok hc
 rw [hn] at h1 h64
 have HND := Lib.hid (Rnk.no_twice ht)
 have hA := fun u (hu : Upd Nowhere w u) => checkA_any (cp := cp) hn (by omega) (hf.old hu)
 simp only [hc] at hA
 have HA := fun u hu => Lib.hid (hA u hu)
 have HT := fun u => Lib.hid (Tab.t_new u 64 (by omega) (by omega))
 have HN := Lib.hid hn
 have HF := Lib.hid hf
 have hUP : Upd Nowhere w (w.alloc (.cells (VC c (.slice ad n cp)) TCg)) := (Upd.refl _ _).alloc _
 have HAP := HA _ hUP
 have hBP : Blk (w.alloc (.cells (VC c (.slice ad n cp)) TCg)) w.heap.size (VC c (.slice ad n cp)) TCg := Blk.new _ _ _
 clear hn hc hf ht hA HA
 go_enter Tryz.func23, Tryz.ntmps23
 go_wp2_with fail
 refine (HAP.out).mono ?_
 rintro e w1 ⟨rfl, u1⟩
 have hB1 := hBP.kept u1 (fun h => h)
 have HU1 := Lib.hid (hUP.trans u1 (fun _ _ h => h))
 clear u1 hBP hUP HAP
 obtain ⟨pk, hpk⟩ : ∃ pk, w.heap.size = pk := ⟨_, rfl⟩
 rw [hpk] at hB1
 have HPK : Hid (w.heap.size ≤ pk) := Lib.hid (by omega)
 have HB1 := Lib.hid hB1
 clear hB1
 go_wp2_with fail
 (try simp only [hpk])
 clear hpk
 refine (HT w1).out.mono ?_
 rintro e w2 ⟨t, own2, rfl, hT2, ho2, u2⟩
 have hM2 : Made w1 w2 [tabC t 64 0 (tblM c.flows 0)] := (Made.start w1).more (C := tabC t 64 0 (tblM c.flows 0)) (by rw [tblM_zero]; exact hT2) ho2 u2
 have HM2 := Lib.hid hM2
 have c10 : w2.cell? ⟨pk, 10, none⟩ = some (.slice ad n cp) := (HB1.out.kept u2 (fun h => h)).cellAt rfl
 clear hT2 hM2 ho2 u2
 go_wp2_with fail
 go_loopg [8, 21] (n + 1) (fun gk _ v21 wr => ∃ (k : Nat), n - k < gk ∧ k ≤ n ∧ v21 = .int .i64 k ∧ Hid (Made w1 wr [tabC t 64 k (tblM c.flows k)]))
 case atStart => exact ⟨0, by omega, Nat.zero_le _, rfl, HM2⟩
 case round =>
  obtain ⟨k, hgk, hin, rfl, HM⟩ := hrel
  obtain ⟨wB, rfl⟩ : ∃ x, x = wr := ⟨_, rfl⟩
  have HGK := Lib.hid hgk
  clear hgk
  have HUB : Hid (Upd Nowhere w wB) := Lib.hid (HU1.out.trans HM.out.upd (fun _ _ h => h))
  rcases Nat.lt_or_ge k n with hlt | hge
  · obtain ⟨f, hfk⟩ : ∃ f, c.flows[k]? = some f := ⟨c.flows[k]'(by rw [HN.out]; exact hlt), by simp⟩
    have HSU := Lib.hid (tblM_succ hfk HND.out)
    have HNO := Lib.hid (tblM_none hfk HND.out)
    obtain ⟨g', o', e, q0, q1, q2, q3, q4⟩ := (HF.out.old HUB.out) k f hfk
    subst e
    have hI : (k : Int) < n := by omega
    obtain ⟨x, b, d, s, m⟩ := f
    dsimp only at q0 q1 q2 q3 q4
    have HFK := Lib.hid hfk
    clear hfk
    go_upto_region 8 with fail
    have hA : Upd Nowhere wB (wB.alloc (.cells #[.int .u32 x, .int .u64 b, .int .u64 d, .int .u64 s, .int .u64 m] TFl)) := (Upd.refl _ _).alloc _
    have hB2 : Blk (wB.alloc (.cells #[.int .u32 x, .int .u64 b, .int .u64 d, .int .u64 s, .int .u64 m] TFl)) wB.heap.size #[.int .u32 x, .int .u64 b, .int .u64 d, .int .u64 s, .int .u64 m] TFl := Blk.new _ _ _
    have HM3 := Lib.hid (HM.out.old hA)
    obtain ⟨t0, t1, t2, t3, t4, _, _, _, _, _⟩ := cells5 hB2
    generalize wB.alloc (.cells #[.int .u32 x, .int .u64 b, .int .u64 d, .int .u64 s, .int .u64 m] TFl) = wA at *
    clear hA hB2 HM q0 q1 q2 q3 q4
    obtain ⟨o, hP, hge2, hback⟩ := Made.foc (tabC t 64 k (tblM c.flows k)) [] [] HM3.out
    have HC := Lib.hid (Tab.t_put (x0 := 0) (x1 := 0) (x2 := m) hP HNO.out (by omega))
    have HBK := Lib.hid hback
    clear hP hback hge2
    go_wp2_with fail
    refine (HC.out).mono ?_
    rintro e w4 ⟨rfl, own4, hT4, hF4⟩
    have HM4 : Hid (Made w1 w4 [tabC t 64 (k + 1) (tblM c.flows (k + 1))]) := Lib.hid (by rw [HSU.out]; exact HBK.out w4 own4 (tabC t 64 (k + 1) (Tab.upm (tblM c.flows k) x (0, 0, m))) hT4 hF4)
    clear hT4 hF4 HBK HC HSU HNO
    go_wp2_with fail
    go_roundg (n - k)
    case rel => exact ⟨k + 1, by omega, by omega, rfl, HM4⟩
    case measure => have := HGK.out; omega
  · obtain rfl : k = n := by omega
    have dI : decide ((k : Int) < k) = false := by simp
    have hBF := HB1.out.kept HM.out.upd (fun h => h)
    have e10 : wB.cell? ⟨pk, 10, none⟩ = some (.slice ad k cp) := hBF.cellAt rfl
    have z10 := hBF.free 10
    have hU9 : Upd Nowhere w (wB.setCell ⟨pk, 10, none⟩ (.slice none 0 0)) := HUB.out.setNew HPK.out _
    have hB9 : Blk (wB.setCell ⟨pk, 10, none⟩ (.slice none 0 0)) pk (VC c (.slice none 0 0)) TCg := by simpa using hBF.set 10 (.slice none 0 0)
    have HM9 : Hid (Made w (wB.setCell ⟨pk, 10, none⟩ (.slice none 0 0)) [tabC t 64 k (tblM c.flows k)]) := Lib.hid (by
     obtain ⟨own, a1, a2, a3⟩ := HM.out
     have hlt1 := HB1.out.lt
     refine ⟨own, Sep.kp (S := fun q => q = pk) (Upd.setCell (S := fun q => q = pk) (a := ⟨pk, 10, none⟩) (Upd.refl _ _) (fun _ => rfl) _) a1 (fun q hq e => ?_), fun q hq => Nat.le_trans HU1.out.size (a2 q hq), hU9⟩
     have := a2 q hq
     omega)
    have HU9 := Lib.hid hU9
    clear hBF hU9
    go_upto_region 11 with fail
    generalize wB.setCell ⟨pk, 10, none⟩ (.slice none 0 0) = w9 at *
    obtain ⟨y0, y1, y2, y3, y4, y5, y6, y7, y8, y9, y10⟩ := cgs hB9
    go_wp2_with fail
    go_ret2
    obtain ⟨own, ⟨o, o', a1, a2, a3, a4⟩, b2, b3⟩ := HM9.out
    refine ⟨w9.heap.size, fun q => q = w9.heap.size ∨ o q, rfl, ⟨t, o, Blk.new _ _ _, Tab.TM.old a1 ((Upd.refl _ _).alloc _), fun h => absurd (Tab.TM.lts a1 h) (Nat.lt_irrefl _), fun _ => Iff.rfl⟩, fun q hq => ?_, HU9.out.alloc _⟩
    rcases hq with rfl | hq
    · exact HU9.out.size
    · exact b2 q ((a4 q).2 (.inl hq))
end Go.Proofs.YtpgpjjkeginbbaaGreatDoor.Gt

