/- ShM0, ShM1, ShM2, ShM3, one behind the other. -/
import Derived.Test.YtpgpjjkeginbbaaGreatDoorMtGt2
import Derived.Test.YtpgpjjkeginbbaaGreatDoorMtPl
import Derived.Test.YtpgpjjkeginbbaaGreatDoorMtBk
import Derived.Deep.MidRow
import Derived.Test.YtpgpjjkeginbbaaGreatDoorMtBig
import Derived.Test.YtpgpjjkeginbbaaGreatDoorMtA
import Derived.Test.YtpgpjjkeginbbaaGreatDoorMeTk
namespace Go.Proofs.YtpgpjjkeginbbaaGreatDoor.Shm
open Go.RowKit Go.Proofs BigFrame
open Sh (Fl Cg Pk)
set_option maxHeartbeats 4000000
set_option maxRecDepth 1000000
set_option linter.unusedSimpArgs false
abbrev TSh : TypeId := 91
abbrev TRe : TypeId := 51
abbrev TSt : TypeId := 49
abbrev TOp : TypeId := 54
abbrev TPk : TypeId := 44
abbrev TBu : TypeId := 89
/-- The 32 counts. -/
abbrev RV (r : Nat → Nat) : Array Value := #[.int .u64 (r 0 : Nat), .int .u64 (r 1 : Nat), .int .u64 (r 2 : Nat), .int .u64 (r 3 : Nat), .int .u64 (r 4 : Nat), .int .u64 (r 5 : Nat), .int .u64 (r 6 : Nat), .int .u64 (r 7 : Nat), .int .u64 (r 8 : Nat), .int .u64 (r 9 : Nat), .int .u64 (r 10 : Nat), .int .u64 (r 11 : Nat), .int .u64 (r 12 : Nat), .int .u64 (r 13 : Nat), .int .u64 (r 14 : Nat), .int .u64 (r 15 : Nat), .int .u64 (r 16 : Nat), .int .u64 (r 17 : Nat), .int .u64 (r 18 : Nat), .int .u64 (r 19 : Nat), .int .u64 (r 20 : Nat), .int .u64 (r 21 : Nat), .int .u64 (r 22 : Nat), .int .u64 (r 23 : Nat), .int .u64 (r 24 : Nat), .int .u64 (r 25 : Nat), .int .u64 (r 26 : Nat), .int .u64 (r 27 : Nat), .int .u64 (r 28 : Nat), .int .u64 (r 29 : Nat), .int .u64 (r 30 : Nat), .int .u64 (r 31 : Nat)]
/-- The stats. -/
abbrev VSt (now tok p b : Nat) (r : Nat → Nat) : Array Value := #[.int .u64 (now : Nat), .int .u64 (tok : Nat), .int .i64 (p : Nat), .int .u64 (b : Nat), .int .u64 (r 0 : Nat), .int .u64 (r 1 : Nat), .int .u64 (r 2 : Nat), .int .u64 (r 3 : Nat), .int .u64 (r 4 : Nat), .int .u64 (r 5 : Nat), .int .u64 (r 6 : Nat), .int .u64 (r 7 : Nat), .int .u64 (r 8 : Nat), .int .u64 (r 9 : Nat), .int .u64 (r 10 : Nat), .int .u64 (r 11 : Nat), .int .u64 (r 12 : Nat), .int .u64 (r 13 : Nat), .int .u64 (r 14 : Nat), .int .u64 (r 15 : Nat), .int .u64 (r 16 : Nat), .int .u64 (r 17 : Nat), .int .u64 (r 18 : Nat), .int .u64 (r 19 : Nat), .int .u64 (r 20 : Nat), .int .u64 (r 21 : Nat), .int .u64 (r 22 : Nat), .int .u64 (r 23 : Nat), .int .u64 (r 24 : Nat), .int .u64 (r 25 : Nat), .int .u64 (r 26 : Nat), .int .u64 (r 27 : Nat), .int .u64 (r 28 : Nat), .int .u64 (r 29 : Nat), .int .u64 (r 30 : Nat), .int .u64 (r 31 : Nat)]
/-- A reply. -/
abbrev VRe (kind : Int) (code x0 x1 x2 rank now tok p b : Nat) (r : Nat → Nat) : Array Value := #[.int .i64 kind, .int .i64 (code : Nat), .int .u32 (x0 : Nat), .int .u32 (x1 : Nat), .int .u64 (x2 : Nat), .int .u64 (rank : Nat), .int .u64 (now : Nat), .int .u64 (tok : Nat), .int .i64 (p : Nat), .int .u64 (b : Nat), .int .u64 (r 0 : Nat), .int .u64 (r 1 : Nat), .int .u64 (r 2 : Nat), .int .u64 (r 3 : Nat), .int .u64 (r 4 : Nat), .int .u64 (r 5 : Nat), .int .u64 (r 6 : Nat), .int .u64 (r 7 : Nat), .int .u64 (r 8 : Nat), .int .u64 (r 9 : Nat), .int .u64 (r 10 : Nat), .int .u64 (r 11 : Nat), .int .u64 (r 12 : Nat), .int .u64 (r 13 : Nat), .int .u64 (r 14 : Nat), .int .u64 (r 15 : Nat), .int .u64 (r 16 : Nat), .int .u64 (r 17 : Nat), .int .u64 (r 18 : Nat), .int .u64 (r 19 : Nat), .int .u64 (r 20 : Nat), .int .u64 (r 21 : Nat), .int .u64 (r 22 : Nat), .int .u64 (r 23 : Nat), .int .u64 (r 24 : Nat), .int .u64 (r 25 : Nat), .int .u64 (r 26 : Nat), .int .u64 (r 27 : Nat), .int .u64 (r 28 : Nat), .int .u64 (r 29 : Nat), .int .u64 (r 30 : Nat), .int .u64 (r 31 : Nat)]
/-- A shaper's cells. -/
abbrev SC (g k : Nat) (rt bu tok : Nat) (v : Value) (now : Nat) (r : Nat → Nat) : Array Value := #[.pointer (some ⟨g, 0, none⟩), .pointer (some ⟨k, 0, none⟩), .int .u64 (rt : Nat), .int .u64 (bu : Nat), .int .u64 (tok : Nat), v, .int .u64 (now : Nat), .int .u64 (r 0 : Nat), .int .u64 (r 1 : Nat), .int .u64 (r 2 : Nat), .int .u64 (r 3 : Nat), .int .u64 (r 4 : Nat), .int .u64 (r 5 : Nat), .int .u64 (r 6 : Nat), .int .u64 (r 7 : Nat), .int .u64 (r 8 : Nat), .int .u64 (r 9 : Nat), .int .u64 (r 10 : Nat), .int .u64 (r 11 : Nat), .int .u64 (r 12 : Nat), .int .u64 (r 13 : Nat), .int .u64 (r 14 : Nat), .int .u64 (r 15 : Nat), .int .u64 (r 16 : Nat), .int .u64 (r 17 : Nat), .int .u64 (r 18 : Nat), .int .u64 (r 19 : Nat), .int .u64 (r 20 : Nat), .int .u64 (r 21 : Nat), .int .u64 (r 22 : Nat), .int .u64 (r 23 : Nat), .int .u64 (r 24 : Nat), .int .u64 (r 25 : Nat), .int .u64 (r 26 : Nat), .int .u64 (r 27 : Nat), .int .u64 (r 28 : Nat), .int .u64 (r 29 : Nat), .int .u64 (r 30 : Nat), .int .u64 (r 31 : Nat)]
theorem known_any (k : Int) (w : World) : Calls Tryz.prog 33 #[.int .i64 k] w fun e w' => e = .returned (.int .i64 (Sh.known k)) ∧ w = w' := by
 unfold Sh.known
 rcases Classical.em (k < 0) with h | h
 · rw [if_pos (.inl h)]
   have d0 : decide (k < 0) = true := decide_eq_true h
   clear h
   go_enter Tryz.func33, Tryz.ntmps33
   go_wp2_with fail
   go_ret
   exact ⟨rfl, rfl⟩
 have d0 : decide (k < 0) = false := decide_eq_false h
 rcases Classical.em (5 < k) with h2 | h2
 · rw [if_pos (.inr h2)]
   have d1 : decide (5 < k) = true := decide_eq_true h2
   clear h h2
   go_enter Tryz.func33, Tryz.ntmps33
   go_wp2_with fail
   go_ret
   exact ⟨rfl, rfl⟩
 have d1 : decide (5 < k) = false := decide_eq_false h2
 rw [if_neg (fun h' => h'.elim h h2)]
 clear h h2
 go_enter Tryz.func33, Tryz.ntmps33
 go_wp2_with fail
 go_ret
 exact ⟨rfl, rfl⟩
end Go.Proofs.YtpgpjjkeginbbaaGreatDoor.Shm
namespace Go.Proofs.YtpgpjjkeginbbaaGreatDoor.Shm
open Go.RowKit Go.Proofs BigFrame
open Sh (Fl Cg Pk)
set_option maxHeartbeats 4000000
set_option maxRecDepth 1000000
set_option linter.unusedSimpArgs false
/-- The stats at first. -/
abbrev zSt : Array Value := #[.int .u64 0, .int .u64 0, .int .i64 0, .int .u64 0, .int .u64 0, .int .u64 0, .int .u64 0, .int .u64 0, .int .u64 0, .int .u64 0, .int .u64 0, .int .u64 0, .int .u64 0, .int .u64 0, .int .u64 0, .int .u64 0, .int .u64 0, .int .u64 0, .int .u64 0, .int .u64 0, .int .u64 0, .int .u64 0, .int .u64 0, .int .u64 0, .int .u64 0, .int .u64 0, .int .u64 0, .int .u64 0, .int .u64 0, .int .u64 0, .int .u64 0, .int .u64 0, .int .u64 0, .int .u64 0, .int .u64 0, .int .u64 0]
theorem Blk.old {w w' : World} {b : Nat} {cs : Array Value} {t : TypeId} (h : Blk w b cs t) (hu : Upd Nowhere w w') : Blk w' b cs t := h.kept hu (fun h => h)
theorem load_ref {w : World} {s g k rt bu tok now : Nat} {v : Value} {r : Nat → Nat} (h : Blk w s (SC g k rt bu tok v now r) TSh) : (loadVar 47 ⟨s, 7, none⟩).run Tryz.prog w = .ok (.agg (RV r)) w :=
 load_mid (n := 32) h Tryz.underlying47 rfl (by kernel_rfl) (RV r) rfl rfl
theorem build_st (now tok p b : Nat) (r : Nat → Nat) (w : World) : (Instr.build 49 #[(0, .int .u64 (now : Nat)), (1, .int .u64 (tok : Nat)), (2, .int .i64 (p : Nat)), (3, .int .u64 (b : Nat)), (4, .agg (RV r))]).run Tryz.prog w = .ok (.agg (VSt now tok p b r)) w := by kernel_rfl
theorem stats_any {w : World} {s g k p b n rt bu tok now : Nat} {v : Value} {r : Nat → Nat} {own : Nat → Prop} {c : Cg} {m : Nat → Option Tab.Own} (hS : Blk w s (SC g k rt bu tok v now r) TSh) (hG : Gt.GM w g own c p b n m) :
 Calls Tryz.prog 38 #[.pointer (some ⟨s, 0, none⟩)] w fun e w' => e = .returned (.agg (VSt now tok p b r)) ∧ Upd Nowhere w w' := by
 have HT := fun u (hu : Upd Nowhere w u) => Lib.hid (Gt.total_any (hG.old hu))
 have c0 : w.cell? ⟨s, 0, none⟩ = some (.pointer (some ⟨g, 0, none⟩)) := hS.cellAt rfl
 have HS := Lib.hid hS
 clear hS hG
 go_enter Tryz.func38, Tryz.ntmps38
 go_upto_region 1 with fail
 have hB : Blk (w.alloc (.cells zSt TSt)) w.heap.size zSt TSt := Blk.new _ _ _
 have hUA : Upd Nowhere w (w.alloc (.cells zSt TSt)) := (Upd.refl _ _).alloc _
 have hge : w.heap.size ≤ w.heap.size := Nat.le_refl _
 have hA0 : (w.alloc (.cells zSt TSt)).cell? ⟨s, 0, none⟩ = some (.pointer (some ⟨g, 0, none⟩)) := cell_old hUA c0
 obtain ⟨rb, hrb⟩ : ∃ rb, w.heap.size = rb := ⟨_, rfl⟩
 rw [hrb] at hB
 simp only [hrb]
 have HRB : Hid (w.heap.size ≤ rb) := Lib.hid (by omega)
 clear hge hrb c0
 generalize w.alloc (.cells zSt TSt) = wA at *
 have HUA := Lib.hid hUA
 go_wp2_with fail
 refine ((HT _ hUA).out).mono ?_
 rintro e w1 ⟨rfl, u1⟩
 have hB1 := hB.kept u1 (fun h => h)
 have hS1 := Shm.Blk.old (Shm.Blk.old HS.out hUA) u1
 have HU1 := Lib.hid (hUA.trans u1 (fun _ _ h => h))
 clear hB hUA u1 hA0 HT
 have hsr : ¬ s = rb := fun e => by have := HS.out.lt; have := HRB.out; omega
 have c4 : w1.cell? ⟨s, 4, none⟩ = some (.int .u64 (tok : Nat)) := hS1.cellAt rfl
 have c6 : w1.cell? ⟨s, 6, none⟩ = some (.int .u64 (now : Nat)) := hS1.cellAt rfl
 go_upto_region 2 with fail
 refine wp_region_held_drew (S := fun w' => Upd (fun q => q = rb) w1 w' ∧ w'.cell? ⟨s, 4, none⟩ = some (.int .u64 (tok : Nat)) ∧ w'.cell? ⟨s, 6, none⟩ = some (.int .u64 (now : Nat)) ∧ Blk w' s (SC g k rt bu tok v now r) TSh) (by kernel_rfl) ⟨(Upd.refl _ _).drew, c4, c6, hS1.drew⟩ (fun hHeld => ?_)
 refine tkq 0 ?_
 refine tkq 1 ?_
 refine tkq 2 ?_
 refine tkq 3 ?_
 refine tkq 4 ?_
 refine tkq 5 ?_
 refine tkq 6 ?_
 refine tkq 7 ?_
 refine tkq 8 ?_
 refine tkq 9 ?_
 refine tkq 10 ?_
 refine tkq 11 ?_
 refine tkq 12 ?_
 refine tkq 13 ?_
 refine tkq 14 (v := .agg (RV r)) ?_ (hy := fun w h => exec_load (load_ref h.2.2.2))
 refine tkq 15 (v := .agg (VSt now tok p b r)) ?_ (hy := fun w _ => exec_build (build_st now tok p b r w))
 obtain ⟨w5, hst, hB5, hu5⟩ := store_all (P := Tryz.prog) (T := TSt) (V := VSt now tok p b r) (n := 36) hB1.drew (by kernel_rfl) rfl rfl (by kernel_rfl)
 refine rdq 16 fun K hK => ?_
 rw [if_pos (by rfl)]
 refine wp_storeV TSt (.tmp 2) (.tmp 28) rfl ⟨rb, 0, none⟩ (.agg (VSt now tok p b r)) rfl rfl hst ?_
 have hS5 := (Blk.drew hS1).kept hu5 hsr
 refine hK.out _ _ ⟨((Upd.refl _ w1).drew).trans hu5 (fun _ _ h => h), hS5.cellAt rfl, hS5.cellAt rfl, hS5⟩ (fun hHeld => ?_)
 clear hK K
 refine wpAnyH_done (by kernel_rfl) ?_ _
 go_wp2_with fail
 refine bodyPost_ret (v := .agg (VSt now tok p b r)) (results_cell (t := TSt) (x := 2) rfl rfl (load_all (n := 36) hB5 Tryz.underlying49 rfl (by kernel_rfl) rfl)) rfl ⟨rfl, ?_⟩
 exact HU1.out.trans (((Upd.refl _ w1).drew).trans hu5 (fun _ _ h => h)) (fun q hq e => by have := HRB.out; omega)
end Go.Proofs.YtpgpjjkeginbbaaGreatDoor.Shm
namespace Go.Proofs.YtpgpjjkeginbbaaGreatDoor.Shm
open Go.RowKit Go.Proofs BigFrame
open Sh (Fl Cg Pk)
set_option maxHeartbeats 4000000
set_option maxRecDepth 1000000
set_option linter.unusedSimpArgs false
/-- The counts of a list. -/
def rOf (l : List Nat) : Nat → Nat := fun k => l.getD k 0
/-- One count turned. -/
def rSet (r : Nat → Nat) (y x : Nat) : Nat → Nat := fun k => if k = y then x else r k
theorem rOf_set {l : List Nat} {y x : Nat} (h : y < l.length) : rOf (l.set y x) = rSet (rOf l) y x := by
 funext k
 unfold rOf rSet
 by_cases e : k = y
 · subst e; rw [if_pos rfl, Sh.getD_set_eq h]
 · rw [if_neg e, Sh.getD_set_ne (fun h => e h.symm)]
theorem sc_list (g k rt bu tok : Nat) (v : Value) (now : Nat) (r : Nat → Nat) : (SC g k rt bu tok v now r).toList = [.pointer (some ⟨g, 0, none⟩), .pointer (some ⟨k, 0, none⟩), .int .u64 (rt : Nat), .int .u64 (bu : Nat), .int .u64 (tok : Nat), v, .int .u64 (now : Nat)] ++ (List.range 32).map (fun k => .int .u64 (r k : Nat)) := rfl
theorem sc_set (g k rt bu tok : Nat) (v : Value) (now : Nat) (r : Nat → Nat) {y : Nat} (hy : y < 32) (x : Nat) : (SC g k rt bu tok v now r).setIfInBounds (7 + y) (.int .u64 (x : Nat)) = SC g k rt bu tok v now (rSet r y x) := by
 apply Array.ext'
 rw [Array.toList_setIfInBounds, sc_list, sc_list, List.set_append_right _ _ (by simp)]
 congr 1
 apply List.ext_getElem?
 intro j
 rw [List.getElem?_set]
 simp only [List.length_map, List.length_range, List.getElem?_map, List.length_cons, List.length_nil]
 rw [show 7 + y - (0 + 1 + 1 + 1 + 1 + 1 + 1 + 1) = y by omega]
 by_cases e : y = j
 · subst e
   rw [if_pos rfl, if_pos hy, List.getElem?_range hy]
   simp [rSet]
 · rw [if_neg e]
   cases h : (List.range 32)[j]? with
   | none => rfl
   | some i =>
     obtain ⟨hj, rfl⟩ := List.getElem?_eq_some_iff.1 h
     simp only [List.getElem_range, Option.map_some]
     unfold rSet
     rw [if_neg (fun h => e h.symm)]
theorem sc_at (g k rt bu tok : Nat) (v : Value) (now : Nat) (r : Nat → Nat) {y : Nat} (hy : y < 32) : (SC g k rt bu tok v now r)[7 + y]? = some (.int .u64 (r y : Nat)) := by
 rw [← Array.getElem?_toList, sc_list, List.getElem?_append_right (by simp), List.getElem?_map]
 simp only [List.length_cons, List.length_nil]
 rw [show 7 + y - (0 + 1 + 1 + 1 + 1 + 1 + 1 + 1) = y by omega, List.getElem?_range hy]
 rfl
theorem refuse_any {w : World} {s g k rt bu tok now y : Nat} {v : Value} {r : Nat → Nat} (hS : Blk w s (SC g k rt bu tok v now r) TSh) (hy : y < 32) (hr : r y ≤ 18446744073709551615) :
 Calls Tryz.prog 39 #[.pointer (some ⟨s, 0, none⟩), .int .i64 (y : Nat)] w fun e w' => e = .returned (.int .i64 (y : Nat)) ∧ Blk w' s (SC g k rt bu tok v now (rSet r y (min (r y + 1) 18446744073709551615))) TSh ∧ Upd (fun q => q = s) w w' := by
 have HA := fun u => Lib.hid (Bits.sat_add (r y) 1 u hr (by omega))
 have cy : w.cell? ⟨s, 7 + y, none⟩ = some (.int .u64 (r y : Nat)) := hS.cellAt (sc_at g k rt bu tok v now r hy)
 obtain ⟨x, hx⟩ : ∃ x, min (r y + 1) 18446744073709551615 = x := ⟨_, rfl⟩
 rw [hx] at HA ⊢
 obtain ⟨z, hz⟩ : ∃ z, r y = z := ⟨_, rfl⟩
 rw [hz] at HA cy
 have hset := sc_set g k rt bu tok v now r hy x
 generalize SC g k rt bu tok v now r = A at *
 generalize SC g k rt bu tok v now (rSet r y x) = A' at *
 have hyI : (y : Int) < 32 := by omega
 clear hx hr hz
 go_enter Tryz.func39, Tryz.ntmps39
 go_upto_region 1 with fail
 refine wp_region_held_drew (S := fun w' => Upd (fun q => q = s) w w') (by kernel_rfl) ((Upd.refl _ _).drew) (fun hHeld => ?_)
 refine tkq 0 ?_
 refine tkq 1 ?_
 refine tkq 2 ?_
 refine tkq 3 ?_
 refine tkq 4 ?_
 refine tkq 5 ?_
 refine tkq 6 ?_
 refine tkq 9 ?_
 refine tkq 10 ?_
 refine rdq 7 fun K hK => ?_
 go_simp
 refine hK.out _ _ (by (try dsimp only); assumption) (fun hHeld => ?_)
 clear hK K
 refine rdq 8 fun K hK => ?_
 go_simp
 go_wp2_with (go_at_call 36; refine (HA _).out.mono ?_; rintro e w2 ⟨rfl, rfl⟩)
 refine hK.out _ _ (by (try dsimp only); assumption) (fun hHeld => ?_)
 clear hK K
 refine tkq 11 ?_
 have z7 := hS.free (7 + y)
 have HB : Hid (Blk (w.drew.setCell ⟨s, 7 + y, none⟩ (.int .u64 (x : Nat))) s A' TSh) := Lib.hid (by rw [← hset]; exact (Blk.drew hS).set (7 + y) _)
 have HU : Hid (Upd (fun q => q = s) w (w.drew.setCell ⟨s, 7 + y, none⟩ (.int .u64 (x : Nat)))) := Lib.hid (Upd.setCell (S := fun q => q = s) (a := ⟨s, 7 + y, none⟩) ((Upd.refl _ _).drew) (fun _ => rfl) _)
 refine rdq 12 fun K hK => ?_
 go_simp
 refine hK.out _ _ (by (try dsimp only); exact HU.out) (fun hHeld => ?_)
 clear hK K
 refine wpAnyH_done (by kernel_rfl) ?_ _
 go_wp2_with fail
 go_ret
 exact ⟨rfl, HB.out, HU.out⟩
end Go.Proofs.YtpgpjjkeginbbaaGreatDoor.Shm
namespace Go.Proofs.YtpgpjjkeginbbaaGreatDoor.Shm
open Go.RowKit Go.Proofs BigFrame
open Sh (Fl Cg Pk St)
open Rnk (RkIn)
set_option maxHeartbeats 4000000
set_option maxRecDepth 1000000
set_option linter.unusedSimpArgs false
/-- Where a shaper lies. -/
structure Lay where
 s : Nat
 g : Nat
 k : Nat
 gf : Nat
 gt : Nat
 cf : Nat
 ct : Nat
 v : Value
/-- A gate, as a thing. -/
def gmC (g : Nat) (c : Cg) (p b n : Nat) (m : Nat → Option Tab.Own) : Comp := ⟨fun w o => Gt.GM w g o c p b n m, fun h hu hS => h.kept hu hS, fun h hk => h.lts hk⟩
/-- Ranks, as a thing. -/
def rkC (r gf gt n cf ct : Nat) (kind : Int) (l : List Fl) (tags : List Nat) (virt : Nat) : Comp :=
 ⟨fun w o => RkIn w r gf gt n cf ct kind l tags virt ∧ ∀ q, o q ↔ q = r ∨ q = gf ∨ q = gt,
  fun h hu hS => ⟨h.1.kept hu (hS _ ((h.2 _).2 (.inl rfl))) (hS _ ((h.2 _).2 (.inr (.inl rfl)))) (hS _ ((h.2 _).2 (.inr (.inr rfl)))), h.2⟩,
  fun {w o q} h hk => by
   rcases (h.2 q).1 hk with rfl | rfl | rfl
   · exact h.1.blk.lt
   · obtain ⟨f, hf⟩ : ∃ f, l[0]? = some f := ⟨l[0]'(by have := h.1.ll; have := h.1.n1; omega), by simp⟩
     obtain ⟨g, o', e, c0, _⟩ := h.1.fls 0 f hf
     cases e
     exact cell_lt c0
   · exact (h.1.row.lt _ rfl).2⟩
/-- What waits, as a thing. -/
def bkC {R : World → Value → (Nat → Prop) → Nat → Nat → Sh.Bk → Prop} (hR : Bk.Laws R) (v : Value) (room cnt : Nat) (b : Sh.Bk) : Comp := ⟨fun w o => R w v o room cnt b, fun h hu hS => hR.kept h hu hS, fun h hk => hR.lts h hk⟩
/-- A shaper's things. -/
def shL {R : World → Value → (Nat → Prop) → Nat → Nat → Sh.Bk → Prop} (hR : Bk.Laws R) (L : Lay) (c : Cg) (cnt : Nat) (st : St) : List Comp :=
 [blkC L.s (SC L.g L.k c.rate c.burst st.tok L.v st.now (rOf st.ref)) TSh, gmC L.g c st.pk st.by_ c.flows.length st.own, rkC L.k L.gf L.gt c.flows.length L.cf L.ct c.rank c.flows st.tags st.virt, bkC hR L.v c.packets.toNat cnt st.bk]
def shC {R : World → Value → (Nat → Prop) → Nat → Nat → Sh.Bk → Prop} (hR : Bk.Laws R) (L : Lay) (c : Cg) (cnt : Nat) (st : St) : Comp := sepC (shL hR L c cnt st)
theorem sep_blk {w : World} {own : Nat → Prop} {b : Nat} {cs : Array Value} {t : TypeId} {l : List Comp} (h : Sep w (blkC b cs t :: l) own) : Blk w b cs t ∧ own b := by
 obtain ⟨o, o', h1, _, _, h4⟩ := h
 exact ⟨h1.1, (h4 b).2 (.inl ((h1.2 b).2 rfl))⟩
theorem plc_some {l : List Fl} {id : Nat} {f : Fl} (h : l.find? (fun f => f.id == id) = some f) : ∃ a f', Sh.plc l id = some a ∧ l[a]? = some f' := by
 unfold Sh.plc
 cases hx : l.findIdx? (fun f => f.id == id) with
 | none =>
   rw [List.findIdx?_eq_none_iff] at hx
   have h1 := List.find?_some h
   rw [hx f (List.mem_of_find?_eq_some h)] at h1
   cases h1
 | some a =>
   obtain ⟨ha, _⟩ := List.findIdx?_eq_some_iff_getElem.1 hx
   exact ⟨a, l[a], rfl, List.getElem?_eq_getElem ha⟩
theorem next_any {w : World} {k gf gt n cf ct id m : Nat} {c : Cg} {st : St} (h : RkIn w k gf gt n cf ct c.rank c.flows st.tags st.virt) (hr : 1 ≤ c.rank ∧ c.rank ≤ 3) {f : Fl} (hf : c.flows.find? (fun f => f.id == id) = some f)
 (hfl : ∀ f ∈ c.flows, f.id < 4294967296 ∧ f.cost ≤ Sh.mx ∧ f.budget ≤ Sh.mx ∧ f.size ≤ Sh.mx ∧ f.cap ≤ Sh.mx) (htg : ∀ t ∈ st.tags, t ≤ Sh.mx) (hv : st.virt ≤ Sh.mx) (hn : st.now ≤ Sh.mx) (hm : m ≤ Sh.mx) :
 Calls Tryz.prog 65 #[.pointer (some ⟨k, 0, none⟩), .int .u64 (st.now : Nat), .int .u32 id, .int .u64 m] w fun e w' => e = .returned (.tuple #[.int .u64 ((Sh.rankOf c st id m).1 : Nat), .int .i64 0]) ∧ RkIn w' k gf gt n cf ct c.rank c.flows (Sh.rankOf c st id m).2 st.virt ∧ Upd (fun q => q = gt) w w' := by
 obtain ⟨a, f', hp, hfa⟩ := plc_some hf
 have hlt : a < st.tags.length := by
  have h1 := h.ll
  have h2 := h.lt
  rcases Nat.lt_or_ge a c.flows.length with h' | h'
  · omega
  · rw [List.getElem?_eq_none h'] at hfa; cases hfa
 obtain ⟨t, ht⟩ : ∃ t, st.tags[a]? = some t := ⟨st.tags[a], by simp⟩
 have htm := htg t (List.mem_of_getElem? ht)
 obtain ⟨f1, f2, f3, f4, f5⟩ := hfl f' (List.mem_of_getElem? hfa)
 have e0 : Sh.rankOf c st id m = if c.rank = 1 then (max st.virt t, st.tags.set a (min (max st.virt t + f'.cost * m) Sh.mx)) else if c.rank = 2 then (min (st.now + f'.budget) Sh.mx, st.tags) else (t, st.tags.set a (t - m)) := by
  unfold Sh.rankOf
  rw [hp]
  simp only [List.getD_eq_getElem?_getD, ht, hfa, Option.getD_some]
  rw [Sat.cap_add]
 rw [e0]
 obtain ⟨x, cc, b, s, q⟩ := f'
 obtain ⟨kind, hk⟩ : ∃ kind, c.rank = kind := ⟨_, rfl⟩
 rw [hk] at h hr ⊢
 rcases (show kind = 1 ∨ kind = 2 ∨ kind = 3 by omega) with rfl | rfl | rfl
 · exact Rnk.next1_any_ h hp hfa ht htm hv f2 hm
 · refine (Rnk.next2_any h hp hfa ht f3 hn).mono ?_
   rintro e w' ⟨rfl, hu⟩
   exact ⟨rfl, h.old hu, hu.any _⟩
 · exact Rnk.next3_any h hp hfa ht htm hm
end Go.Proofs.YtpgpjjkeginbbaaGreatDoor.Shm

