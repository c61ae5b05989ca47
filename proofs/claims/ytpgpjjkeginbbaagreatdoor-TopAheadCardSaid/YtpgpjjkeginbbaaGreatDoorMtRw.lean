/- RingW, RingW2, one behind the other. -/
import Derived.Test.YtpgpjjkeginbbaaGreatDoorProg
import Derived.Test.YtpgpjjkeginbbaaGreatDoorMtA
import Derived.Lib.Hide
import Derived.Laws.MakeOwn
import Derived.Deep.DeepCutAuto
namespace Go.Proofs.YtpgpjjkeginbbaaGreatDoor.RingW
open Go.RowKit Go.Proofs BigFrame
open HeapW (putL putL_upd)

abbrev TR : TypeId := 301
abbrev TE : TypeId := 153
/-- An item: a packet (flow, number, length), since when it waits, how many came ahead of it. -/
abbrev It := Nat × Nat × Nat × Nat × Nat
def KI (x : It) : List Value := [.int .u32 (x.1 : Nat), .int .u32 (x.2.1 : Nat), .int .u64 (x.2.2.1 : Nat), .int .u64 (x.2.2.2.1 : Nat), .int .i64 (x.2.2.2.2 : Nat)]
theorem widI (x : It) : (KI x).length = 5 := rfl
abbrev VI (x : It) : Value := .agg #[.int .u32 (x.1 : Nat), .int .u32 (x.2.1 : Nat), .int .u64 (x.2.2.1 : Nat), .int .u64 (x.2.2.2.1 : Nat), .int .i64 (x.2.2.2.2 : Nat)]
abbrev zI : Array Value := #[.int .u32 0, .int .u32 0, .int .u64 0, .int .u64 0, .int .i64 0]
abbrev ZI : Value := .agg zI
abbrev RI (w : World) (b : Nat) (g : Option Nat) (room : Nat) (xs : List It) (fr len : Nat) : Prop := RingIn KI 5 TR TE w b g room xs fr len
abbrev RA (w : World) (b : Nat) (g : Option Nat) (room : Nat) (xs : List It) : Prop := RingAt KI 5 TR TE w b g room xs
theorem at5 {w : World} {b : Nat} {g : Option Nat} {room fr len i j xf xi xl xa xc : Nat} {xs : List It} (h : RI w b g room xs fr len) (hx : xs[i]? = some (xf, xi, xl, xa, xc)) (hj : (fr + i) % len = j) :
 ∃ k, g = some k ∧ w.cell? ⟨k, j * 5, none⟩ = some (.int .u32 xf) ∧ w.cell? ⟨k, j * 5 + 1, none⟩ = some (.int .u32 xi) ∧ w.cell? ⟨k, j * 5 + 2, none⟩ = some (.int .u64 xl) ∧ w.cell? ⟨k, j * 5 + 3, none⟩ = some (.int .u64 xa) ∧ w.cell? ⟨k, j * 5 + 4, none⟩ = some (.int .i64 xc) := by
 subst hj
 obtain ⟨k, hk, hc⟩ := h.atI hx
 exact ⟨k, hk, hc 0 _ rfl, hc 1 _ rfl, hc 2 _ rfl, hc 3 _ rfl, hc 4 _ rfl⟩
/-- What lies in five cells, whatever it is. -/
theorem any5 {w : World} {k j : Nat} {cur : Array Value} {t : TypeId} (h : Blk w k cur t) (hj : j * 5 + 5 ≤ cur.size) :
 ∃ y0 y1 y2 y3 y4, w.cell? ⟨k, j * 5, none⟩ = some y0 ∧ w.cell? ⟨k, j * 5 + 1, none⟩ = some y1 ∧ w.cell? ⟨k, j * 5 + 2, none⟩ = some y2 ∧ w.cell? ⟨k, j * 5 + 3, none⟩ = some y3 ∧ w.cell? ⟨k, j * 5 + 4, none⟩ = some y4 ∧
  w.frozen? ⟨k, j * 5, none⟩ = false ∧ w.frozen? ⟨k, j * 5 + 1, none⟩ = false ∧ w.frozen? ⟨k, j * 5 + 2, none⟩ = false ∧ w.frozen? ⟨k, j * 5 + 3, none⟩ = false ∧ w.frozen? ⟨k, j * 5 + 4, none⟩ = false :=
 ⟨cur[j * 5], cur[j * 5 + 1], cur[j * 5 + 2], cur[j * 5 + 3], cur[j * 5 + 4], h.cellAt (by simp), h.cellAt (by simp), h.cellAt (by simp), h.cellAt (by simp), h.cellAt (by simp), h.free _, h.free _, h.free _, h.free _, h.free _⟩

set_option maxHeartbeats 1000000
theorem room_any (b : Nat) (n room : Int) (w : World) (hn : w.cell? ⟨b, 2, none⟩ = some (.int .i64 n)) (hr : w.cell? ⟨b, 3, none⟩ = some (.int .i64 room))
 (h0 : 0 ≤ n) (h1 : n ≤ room) (h2 : room ≤ 65536) :
 Calls Tryz.prog 280 #[.pointer (some ⟨b, 0, none⟩)] w fun e w' => e = .returned (.int .i64 (room - n)) ∧ ∃ k, w' = w.drewN k := by
 go_enter Tryz.func280, Tryz.ntmps280
 go_wp2
 go_quiet (fail)
 go_wp2
 go_ret
 exact ⟨rfl, _, rfl⟩
theorem slot_any (b : Nat) (fr i j : Nat) (la) (len cap : Nat) (w : World) (hr : w.cell? ⟨b, 0, none⟩ = some (.slice la len cap)) (hn : w.cell? ⟨b, 1, none⟩ = some (.int .i64 fr))
 (h2 : fr ≤ 65536) (h3 : i ≤ 65536) (h4 : 0 < len) (h5 : len ≤ 65536) (hj : Hid ((fr + i) % len = j)) :
 Calls Tryz.prog 283 #[.pointer (some ⟨b, 0, none⟩), .int .i64 i] w fun e w' => e = .returned (.int .i64 j) ∧ ∃ k, w' = w.drewN k := by
 go_enter Tryz.func283, Tryz.ntmps283
 go_wp2
 go_quiet (fail)
 go_wp2
 go_ret
 exact ⟨ret_int (by rw [← hj.out]; rfl), _, rfl⟩
theorem slot_one (b : Nat) (fr j : Nat) (la) (len cap : Nat) (w : World) (hr : w.cell? ⟨b, 0, none⟩ = some (.slice la len cap)) (hn : w.cell? ⟨b, 1, none⟩ = some (.int .i64 fr))
 (h2 : fr ≤ 65536) (h4 : 0 < len) (h5 : len ≤ 65536) (hj : Hid ((fr + 1) % len = j)) :
 Calls Tryz.prog 283 #[.pointer (some ⟨b, 0, none⟩), .int .i64 1] w fun e w' => e = .returned (.int .i64 j) ∧ ∃ k, w' = w.drewN k :=
 slot_any b fr 1 j la len cap w hr hn h2 (by omega) h4 h5 hj
theorem len_any (b : Nat) (n : Int) (w : World) (hn : w.cell? ⟨b, 2, none⟩ = some (.int .i64 n)) :
 Calls Tryz.prog 278 #[.pointer (some ⟨b, 0, none⟩)] w fun e w' => e = .returned (.int .i64 n) ∧ w = w' := by
 go_enter Tryz.func278, Tryz.ntmps278
 go_wp2
 go_ret
 exact ⟨rfl, rfl⟩
/-- At a place where there is something. -/
theorem at_in {w : World} {b : Nat} {g : Option Nat} {room fr len i xf xi xl xa xc : Nat} {xs : List It} (h : RI w b g room xs fr len) (hx : xs[i]? = some (xf, xi, xl, xa, xc)) :
 Calls Tryz.prog 276 #[.pointer (some ⟨b, 0, none⟩), .int .i64 i] w fun e w' => e = .returned (.tuple #[VI (xf, xi, xl, xa, xc), .bool true]) ∧ Upd Nowhere w w' := by
 have hU2 : Upd Nowhere w ((w.alloc (.cells zI TE)).alloc (.cells zI TE)) := ((Upd.refl _ _).alloc _).alloc _
 have hB2 : Blk ((w.alloc (.cells zI TE)).alloc (.cells zI TE)) w.heap.size zI TE := (Blk.new _ _ _).alloc _
 have hH := h.old hU2
 obtain ⟨j, hj⟩ : ∃ j, (fr + i) % len = j := ⟨_, rfl⟩
 obtain ⟨k, rfl, k0, k1, k2, k3, k4⟩ := at5 hH hx hj
 have hi := get_len hx
 have hl1 := h.le1
 have hl2 := h.le2
 have hl3 := h.le3
 have hf : fr < len := (h.arr k rfl).2.1
 have hm : j < len := by rw [← hj]; exact Nat.mod_lt _ (by omega)
 have hd : decide ((i : Int) < 0) = false := by simp
 have he : decide (xs.length ≤ i) = false := by simp; omega
 have HJ := Lib.hid hj
 have h0 : ((w.alloc (.cells zI TE)).alloc (.cells zI TE)).cell? ⟨b, 0, none⟩ = some (.slice (some ⟨k, 0, none⟩) len len) := hH.blk.cellAt rfl
 have h1 : ((w.alloc (.cells zI TE)).alloc (.cells zI TE)).cell? ⟨b, 1, none⟩ = some (.int .i64 fr) := hH.blk.cellAt rfl
 have h2 : ((w.alloc (.cells zI TE)).alloc (.cells zI TE)).cell? ⟨b, 2, none⟩ = some (.int .i64 xs.length) := hH.blk.cellAt rfl
 have HL := Lib.hid (len_any b xs.length _ h2)
 clear h hx hj hH
 generalize xs.length = n at *
 go_enter Tryz.func276, Tryz.ntmps276
 go_wp2_with fail
 generalize (w.alloc (.cells zI TE)).alloc (.cells zI TE) = w2 at *
 obtain ⟨c0, c1, c2, c3, c4, z0, z1, z2, z3, z4⟩ := cells5 hB2
 refine HL.out.mono ?_
 rintro e w' ⟨rfl, rfl⟩
 go_wp2_with fail
 refine wp_region_tail 9 (by kernel_rfl) (by kernel_rfl) ?_
 simp only [List.take_succ_cons, List.take_zero, List.drop_succ_cons, List.drop_zero]
 repeat (go_big_quiet_step ((go_at_call 283; refine Calls.quiet_of (slot_any b fr i j _ _ _ _ (by exact h0) (by exact h1) (by omega) (by omega) (by omega) (by omega) HJ))))
 refine wpQuiet_nil ?_
 rintro _ ⟨nq, rfl⟩
 go_wp2_with fail
 refine Stage.out ?_
 go_wp2_with fail
 exact bodyPost_ret (v := .tuple #[.agg #[.int .u32 xf, .int .u32 xi, .int .u64 xl, .int .u64 xa, .int .i64 xc], .bool true]) (by simp [results, Tryz.results276, go_sem, c0, c1, c2, c3, c4]) rfl ⟨rfl, (by repeat (first | with_reducible exact hU2 | with_reducible refine Upd.drewN ?_ _ | with_reducible refine Upd.drew ?_ | with_reducible refine Upd.setNew ?_ (Nat.le_refl _) _))⟩
theorem at_out {w : World} {b i : Nat} {n : Nat} (hi : n ≤ i) (h2 : w.cell? ⟨b, 2, none⟩ = some (.int .i64 n)) :
 Calls Tryz.prog 276 #[.pointer (some ⟨b, 0, none⟩), .int .i64 i] w fun e w' => e = .returned (.tuple #[ZI, .bool false]) ∧ Upd Nowhere w w' := by
 have hU2 : Upd Nowhere w ((w.alloc (.cells zI TE)).alloc (.cells zI TE)) := ((Upd.refl _ _).alloc _).alloc _
 have hB2 : Blk ((w.alloc (.cells zI TE)).alloc (.cells zI TE)) w.heap.size zI TE := (Blk.new _ _ _).alloc _
 have hN2 : Blk ((w.alloc (.cells zI TE)).alloc (.cells zI TE)) (w.heap.size + 1) zI TE := Blk.new2 _ _ _ _
 have hd : decide ((i : Int) < 0) = false := by simp
 have he : decide (n ≤ i) = true := by simp; omega
 have HL := Lib.hid (len_any b n _ (cell_old hU2 h2))
 clear h2
 go_enter Tryz.func276, Tryz.ntmps276
 go_wp2_with fail
 generalize (w.alloc (.cells zI TE)).alloc (.cells zI TE) = w2 at *
 obtain ⟨c0, c1, c2, c3, c4, z0, z1, z2, z3, z4⟩ := cells5 hB2
 obtain ⟨d0, d1, d2, d3, d4, _, _, _, _, _⟩ := cells5 hN2
 refine HL.out.mono ?_
 rintro e w' ⟨rfl, rfl⟩
 go_wp2_with fail
 exact bodyPost_ret (v := .tuple #[ZI, .bool false]) (by simp [results, Tryz.results276, go_sem, c0, c1, c2, c3, c4]) rfl ⟨rfl, (by repeat (first | with_reducible exact hU2 | with_reducible refine Upd.drewN ?_ _ | with_reducible refine Upd.drew ?_ | with_reducible refine Upd.setNew ?_ (Nat.le_refl _) _))⟩
/-- Head, of a ring that has something. -/
theorem head_in {w : World} {b : Nat} {g : Option Nat} {room fr len xf xi xl xa xc : Nat} {xs : List It} (h : RI w b g room ((xf, xi, xl, xa, xc) :: xs) fr len) :
 Calls Tryz.prog 277 #[.pointer (some ⟨b, 0, none⟩)] w fun e w' => e = .returned (.tuple #[VI (xf, xi, xl, xa, xc), .bool true]) ∧ Upd Nowhere w w' := by
 have hU1 : Upd Nowhere w (w.alloc (.cells zI TE)) := (Upd.refl _ _).alloc _
 have hB1 : Blk (w.alloc (.cells zI TE)) w.heap.size zI TE := Blk.new _ _ _
 have HA : Hid (Calls Tryz.prog 276 #[.pointer (some ⟨b, 0, none⟩), .int .i64 0] (w.alloc (.cells zI TE)) fun e w' => e = .returned (.tuple #[VI (xf, xi, xl, xa, xc), .bool true]) ∧ Upd Nowhere (w.alloc (.cells zI TE)) w') := Lib.hid (at_in (i := 0) (h.old hU1) rfl)
 clear h
 go_enter Tryz.func277, Tryz.ntmps277
 go_wp2_with fail
 refine HA.out.mono ?_
 rintro e w1 ⟨rfl, hu⟩
 have hB := hB1.kept hu id
 have hU := hU1.trans hu (fun _ _ h => h)
 obtain ⟨c0, c1, c2, c3, c4, z0, z1, z2, z3, z4⟩ := cells5 hB
 clear hB1 hU1 hu HA
 go_wp2_with fail
 exact bodyPost_ret (v := .tuple #[.agg #[.int .u32 xf, .int .u32 xi, .int .u64 xl, .int .u64 xa, .int .i64 xc], .bool true]) (by simp [results, Tryz.results277, go_sem, c0, c1, c2, c3, c4]) rfl ⟨rfl, (by repeat (first | with_reducible exact hU | with_reducible refine Upd.drewN ?_ _ | with_reducible refine Upd.drew ?_ | with_reducible refine Upd.setNew ?_ (Nat.le_refl _) _))⟩
theorem head_out {w : World} {b : Nat} (h2 : w.cell? ⟨b, 2, none⟩ = some (.int .i64 0)) :
 Calls Tryz.prog 277 #[.pointer (some ⟨b, 0, none⟩)] w fun e w' => e = .returned (.tuple #[ZI, .bool false]) ∧ Upd Nowhere w w' := by
 have hU1 : Upd Nowhere w (w.alloc (.cells zI TE)) := (Upd.refl _ _).alloc _
 have hB1 : Blk (w.alloc (.cells zI TE)) w.heap.size zI TE := Blk.new _ _ _
 have HA : Hid (Calls Tryz.prog 276 #[.pointer (some ⟨b, 0, none⟩), .int .i64 0] (w.alloc (.cells zI TE)) fun e w' => e = .returned (.tuple #[ZI, .bool false]) ∧ Upd Nowhere (w.alloc (.cells zI TE)) w') := Lib.hid (at_out (i := 0) (n := 0) (Nat.le_refl _) (cell_old hU1 h2))
 clear h2
 go_enter Tryz.func277, Tryz.ntmps277
 go_wp2_with fail
 refine HA.out.mono ?_
 rintro e w1 ⟨rfl, hu⟩
 have hB := hB1.kept hu id
 have hU := hU1.trans hu (fun _ _ h => h)
 obtain ⟨c0, c1, c2, c3, c4, z0, z1, z2, z3, z4⟩ := cells5 hB
 clear hB1 hU1 hu HA
 go_wp2_with fail
 exact bodyPost_ret (v := .tuple #[ZI, .bool false]) (by simp [results, Tryz.results277, go_sem, c0, c1, c2, c3, c4]) rfl ⟨rfl, (by repeat (first | with_reducible exact hU | with_reducible refine Upd.drewN ?_ _ | with_reducible refine Upd.drew ?_ | with_reducible refine Upd.setNew ?_ (Nat.le_refl _) _))⟩
end Go.Proofs.YtpgpjjkeginbbaaGreatDoor.RingW
namespace Go.Proofs.YtpgpjjkeginbbaaGreatDoor.RingW
open Go.RowKit Go.Proofs BigFrame
open HeapW (putL putL_upd)

set_option maxHeartbeats 1000000
theorem grow_none (b : Nat) (n : Nat) (la) (len cap : Nat) (w : World) (hn : n < len)
 (h0 : w.cell? ⟨b, 0, none⟩ = some (.slice la len cap)) (h2 : w.cell? ⟨b, 2, none⟩ = some (.int .i64 n)) :
 Calls Tryz.prog 282 #[.pointer (some ⟨b, 0, none⟩)] w fun e w' => e = .returned (.tuple #[]) ∧ ∃ k, w' = w.drewN k := by
 have hd : decide (n < len) = true := by simpa using hn
 go_enter Tryz.func282, Tryz.ntmps282
 go_wp2
 go_quiet (fail)
 go_wp2
 exact bodyPost_ret (results_none rfl _ _ _) rfl ⟨rfl, _, rfl⟩

theorem info : (Tryz.prog.info? TE).map (fun i => (i.zero, i.size, i.bytes)) = some (some ZI, 5, 32) := by kernel_rfl

theorem zeros5 : (Builtin.zeroCells ZI.cells 1).toList.length = 5 ∧ ∀ v ∈ (Builtin.zeroCells ZI.cells 1).toList, v.oneCell' = true := by
 have h : (Builtin.zeroCells ZI.cells 1).toList = [.int .u32 0, .int .u32 0, .int .u64 0, .int .u64 0, .int .i64 0] := by kernel_rfl
 rw [h]
 exact ⟨rfl, by decide⟩

/-- The growing of a full array. -/
theorem grow_full {w : World} {b : Nat} {g : Option Nat} {room fr len : Nat} {xs : List It} (h : RI w b g room xs fr len) (hn : xs.length = len) (hr : len < room) :
 Calls Tryz.prog 282 #[.pointer (some ⟨b, 0, none⟩)] w fun e w' => e = .returned (.tuple #[]) ∧ RingGrown KI 5 TR TE w w' b g room xs := by
 obtain ⟨i0, hi, hz0, hz1, hz2⟩ := info_parts info
 have hl2 := h.le2
 have hl3 := h.le3
 have hd : decide (len < len) = false := by simp
 have h0 : w.cell? ⟨b, 0, none⟩ = some (slv g len) := h.blk.cellAt rfl
 have h2 : w.cell? ⟨b, 2, none⟩ = some (.int .i64 xs.length) := h.blk.cellAt rfl
 have h3 : w.cell? ⟨b, 3, none⟩ = some (.int .i64 room) := h.blk.cellAt rfl
 obtain ⟨la, hla⟩ : ∃ la, slv g len = .slice la len len := by
  cases g with
  | none => exact ⟨_, by rw [(h.nil rfl).1]; rfl⟩
  | some k => exact ⟨_, rfl⟩
 rw [hla] at h0
 replace hla := Lib.hid hla
 rw [hn] at h2
 replace hn := Lib.hid hn
 obtain ⟨L, hL, hLl, hLr⟩ : ∃ L : Nat, L = min (max (2 * len) 4) room ∧ len < L ∧ L ≤ room := ⟨_, rfl, by omega, by omega⟩
 have HL := Lib.hid hL
 have Hh := Lib.hid h
 clear h hL
 go_enter Tryz.func282, Tryz.ntmps282
 go_wp2
 go_quiet (fail)
 go_wp2
 refine wp_region_tail 12 (by kernel_rfl) (by kernel_rfl) ?_
 simp only [List.take_succ_cons, List.take_zero, List.drop_succ_cons, List.drop_zero]
 repeat (go_big_quiet_step (fail))
 refine wpQuiet_nil ?_
 rintro _ ⟨nq2, rfl⟩
 refine wpList_make_full _ rfl _ _ 299 rfl w.heap.size TE i0 ZI 5 Tryz.underlying299 hi hz0 hz1 .i64 .i64 _ _ L rfl rfl ?q1 ?q1 (by rw [hz2]; omega) (by unfold maxLen; omega) (by simp) ?_
 case q1 => have := HL.out; subst this; split <;> split <;> omega
 generalize (if (room : Int) < _ then (room : Int) else _) = m2
 generalize (if 2 * (len : Int) < 4 then (4 : Int) else _) = m1
 intro w1 hown hgr
 have hu1 : Upd Nowhere w w1 := (((Upd.refl Nowhere w).drewN nq).drewN nq2).grown hgr (fun k _ h => by cases h)
 obtain ⟨cur0, hc0, hge, _, hcs, _⟩ := Blk.own hown
 have hR1 := Hh.out.old hu1
 have e0 : w1.cell? ⟨b, 0, none⟩ = some (.slice la len len) := by rw [hu1.cell 0 Hh.out.lt id]; exact h0
 have e2 : w1.cell? ⟨b, 2, none⟩ = some (.int .i64 len) := by rw [hu1.cell 2 Hh.out.lt id]; exact h2
 clear h0 h2 h3
 go_wp2
 refine Stage.out ?_
 go_wp2
 have hsz : ((w.drewN nq).drewN nq2).heap.size = w.heap.size := rfl
 go_loopw [31] (fun i wr => ∃ (k : Nat) (cur : Array Value), k ≤ len ∧ i = .int .i64 k ∧ Blk wr w.heap.size cur TE ∧ cur.size = L * 5 ∧ (∀ i x, i < k → xs[i]? = some x → ∀ j v, (KI x)[j]? = some v → cur[i * 5 + j]? = some v) ∧ Upd Nowhere w wr) (fun i _ => len - (intOf i).toNat)
 case atStart => exact ⟨0, cur0, by omega, rfl, hc0, by omega, fun i x h => by omega, hu1⟩
 case round =>
  clear hc0 hcs hge hu1 hR1 e0 e2 hown hgr hi hz0 hz1 hz2
  obtain ⟨k, cur, hk, rfl, hcur, hcs, hall, hu⟩ := hrel
  have hR := Hh.out.old hu
  have e0 : wr.cell? ⟨b, 0, none⟩ = some (.slice la len len) := by rw [← hla.out]; exact hR.blk.cellAt rfl
  have e1 : wr.cell? ⟨b, 1, none⟩ = some (.int .i64 fr) := hR.blk.cellAt rfl
  have z0 : wr.frozen? ⟨b, 0, none⟩ = false := hR.blk.free 0
  have z1 : wr.frozen? ⟨b, 1, none⟩ = false := hR.blk.free 1
  by_cases hlt : k < len
  · obtain ⟨x, hx⟩ : ∃ x, xs[k]? = some x := ⟨xs[k]'(by rw [hn.out]; exact hlt), by simp⟩
    obtain ⟨xf, xi, xl, xa, xc⟩ := x
    obtain ⟨j, hj⟩ : ∃ j, (fr + k) % len = j := ⟨_, rfl⟩
    obtain ⟨kk, hkk, k0, k1, k2, k3, k4⟩ := at5 hR hx hj
    subst hkk
    obtain rfl : la = some ⟨kk, 0, none⟩ := by have := hla.out; simpa [slv] using this.symm
    obtain ⟨hkb, hf, _⟩ := hR.arr kk rfl
    have hjl : j < len := by rw [← hj]; exact Nat.mod_lt _ (by omega)
    have Hj := Lib.hid hj
    obtain ⟨y0, y1, y2, y3, y4, f0, f1, f2, f3, f4, q0, q1, q2, q3, q4⟩ := any5 (j := k) hcur (by rw [hcs]; exact row_fits (Nat.lt_trans hlt hLl))
    have HX := Lib.hid hx
    have HALL := Lib.hid hall
    have HCS := Lib.hid hcs
    clear hj hx hall hcs
    go_wp2
    refine wp_region_tail 12 (by kernel_rfl) (by kernel_rfl) ?_
    simp only [List.take_succ_cons, List.take_zero, List.drop_succ_cons, List.drop_zero]
    repeat (go_big_quiet_step ((go_at_call 283; refine Calls.quiet_of (slot_any b fr k j _ _ _ _ (by exact e0) (by exact e1) (by omega) (by omega) (by omega) (by omega) Hj))))
    refine wpQuiet_nil ?_
    rintro _ ⟨nq3, rfl⟩
    go_wp2
    refine Stage.out ?_
    go_wp2
    go_roundw
    case rel =>
     have hfit : k * 5 + 5 ≤ cur.size := by rw [HCS.out]; exact row_fits (Nat.lt_trans hlt hLl)
     obtain ⟨cur', b1, b2, b3, b4⟩ := cells_put (hcur.drewN nq3) (k * 5) (KI (xf, xi, xl, xa, xc)) hfit
     refine ⟨k + 1, cur', by omega, by go_num, b1, b2.trans HCS.out, fun i x hi hx j v hv => ?_, ?_⟩
     · by_cases hik : i = k
       · subst hik
         obtain rfl : (xf, xi, xl, xa, xc) = x := Option.some.inj (HX.out.symm.trans hx)
         exact b4 j v hv
       · rw [b3 _ (row_apart hik (get_len hv))]; exact HALL.out i x (by omega) hx j v hv
     · exact putL_upd (KI (xf, xi, xl, xa, xc)) (hu.drewN nq3) (fun h => absurd h (Nat.lt_irrefl _))
    case measure => simp [intOf]; omega
  · have hkl : k = len := by omega
    have hbw : b ≠ w.heap.size := by have := Hh.out.lt; omega
    go_wp2
    go_end0
    refine ⟨rfl, w.heap.size, 0, L, ⟨widI, ?_, by have := hn.out; omega, hLr, hl3, (fun h => by cases h), fun k' hk' => ?_⟩, by have := hn.out; omega, fun k' hk' => Or.inr (Nat.le_of_eq (Option.some.inj hk')), ?_⟩
    · exact (hR.blk.set 0 _).set 1 _
    · obtain rfl : w.heap.size = k' := by simpa using hk'
      refine ⟨Ne.symm hbw, by omega, cur, ((hcur.setOther (a := ⟨b, 0, none⟩) (Ne.symm hbw) _).setOther (a := ⟨b, 1, none⟩) (Ne.symm hbw) _), hcs, fun i x hx j v hv => ?_⟩
      have hi := get_len hx
      have hn1 : xs.length = len := hn.out
      rw [Nat.zero_add, Nat.mod_eq_of_lt (by omega)]
      exact hall i x (by omega) hx j v hv
    · exact ((hu.any _).setCell (fun _ => .inl rfl) _).setCell (fun _ => .inl rfl) _

/-- grow, in whatever ring with room. -/
theorem grow_any {w : World} {b : Nat} {g : Option Nat} {room fr len : Nat} {xs : List It} (h : RI w b g room xs fr len) (hr : xs.length < room) :
 Calls Tryz.prog 282 #[.pointer (some ⟨b, 0, none⟩)] w fun e w' => e = .returned (.tuple #[]) ∧ RingGrown KI 5 TR TE w w' b g room xs := by
 have hle := h.le1
 rcases Nat.lt_or_ge xs.length len with hlt | hge
 · cases g with
   | none => have := (h.nil rfl).1; omega
   | some k =>
     refine (grow_none b xs.length _ len len w hlt (h.blk.cellAt rfl) (h.blk.cellAt rfl)).mono ?_
     rintro e w' ⟨rfl, n, rfl⟩
     exact ⟨rfl, k, fr, len, h.old ((Upd.refl _ _).drewN n), hlt, fun _ h => .inl h, (Upd.refl _ _).drewN n⟩
 · exact grow_full h (by omega) (by omega)

/-- Put, where there is room. -/
theorem put_room {w : World} {b : Nat} {g : Option Nat} {room fr len : Nat} {xs : List It} (h : RI w b g room xs fr len) (hr : xs.length < room) (xf xi xl xa xc : Nat) :
 Calls Tryz.prog 279 #[.pointer (some ⟨b, 0, none⟩), VI (xf, xi, xl, xa, xc)] w fun e w' => e = .returned (.bool true) ∧ RingTurned KI 5 TR TE w w' b g room (xs ++ [(xf, xi, xl, xa, xc)]) := by
 have hU1 : Upd Nowhere w (w.alloc (.cells #[.int .u32 xf, .int .u32 xi, .int .u64 xl, .int .u64 xa, .int .i64 xc] TE)) := (Upd.refl _ _).alloc _
 have hB1 : Blk (w.alloc (.cells #[.int .u32 xf, .int .u32 xi, .int .u64 xl, .int .u64 xa, .int .i64 xc] TE)) w.heap.size #[.int .u32 xf, .int .u32 xi, .int .u64 xl, .int .u64 xa, .int .i64 xc] TE := Blk.new _ _ _
 have h' := h.old hU1
 have h2 : (w.alloc (.cells #[.int .u32 xf, .int .u32 xi, .int .u64 xl, .int .u64 xa, .int .i64 xc] TE)).cell? ⟨b, 2, none⟩ = some (.int .i64 xs.length) := h'.blk.cellAt rfl
 have h3 : (w.alloc (.cells #[.int .u32 xf, .int .u32 xi, .int .u64 xl, .int .u64 xa, .int .i64 xc] TE)).cell? ⟨b, 3, none⟩ = some (.int .i64 room) := h'.blk.cellAt rfl
 have hl3 := h.le3
 have hlts : ∀ k, RingOf b g k → k < w.heap.size := fun k hk => h.lts hk
 have HLTS := Lib.hid hlts
 have he : ((room : Int) - xs.length == 0) = false := by simp; omega
 have Hg := fun n => Lib.hid (grow_any (h'.old ((Upd.refl _ _).drewN n)) hr)
 have HU1 := Lib.hid hU1
 have HB1 := Lib.hid hB1
 clear h h' hU1 hB1 hlts
 go_enter Tryz.func279, Tryz.ntmps279
 go_wp2_with (go_at_call 280; refine (room_any _ _ _ _ h2 h3 (by omega) (by omega) (by omega)).mono ?_; rintro e w' ⟨rfl, nq, rfl⟩)
 refine (Hg nq).out.mono ?_
 clear Hg h2 h3 he
 rintro e w1 ⟨rfl, k, fr, len, hR, hlt, hsn, hu⟩
 have hU2 := ((HU1.out.drewN nq).any (RingOf b g)).trans hu (fun _ _ h => h)
 have hB2 : Blk w1 w.heap.size #[.int .u32 xf, .int .u32 xi, .int .u64 xl, .int .u64 xa, .int .i64 xc] TE := (HB1.out.drewN nq).kept hu (fun h => absurd (HLTS.out _ h) (Nat.lt_irrefl _))
 have hsn2 : SameOrNew w g (some k) := fun q hq => (hsn q hq).imp id (fun h => Nat.le_trans HU1.out.size h)
 have h0 : w1.cell? ⟨b, 0, none⟩ = some (.slice (some ⟨k, 0, none⟩) len len) := hR.blk.cellAt rfl
 have h1 : w1.cell? ⟨b, 1, none⟩ = some (.int .i64 fr) := hR.blk.cellAt rfl
 have h2 : w1.cell? ⟨b, 2, none⟩ = some (.int .i64 xs.length) := hR.blk.cellAt rfl
 obtain ⟨p0, p1, p2, p3, p4, _, _, _, _, _⟩ := cells5 hB2
 have hl2 := hR.le2
 have z2 := hR.blk.free 2
 obtain ⟨hkb, hf, cur, hcur, hcs, _⟩ := hR.arr k rfl
 obtain ⟨j, hj⟩ : ∃ j, (fr + xs.length) % len = j := ⟨_, rfl⟩
 have hjl : j < len := by rw [← hj]; exact Nat.mod_lt _ (by omega)
 obtain ⟨y0, y1, y2, y3, y4, f0, f1, f2, f3, f4, q0, q1, q2, q3, q4⟩ := any5 (j := j) hcur (by rw [hcs]; exact row_fits hjl)
 have HR := Lib.hid hR
 have Hj := Lib.hid hj
 have Hu := Lib.hid hU2
 have Hs := Lib.hid hsn2
 clear hR hj hcur hcs hu hsn hU2 hsn2 hB2
 obtain ⟨n, hn⟩ : ∃ n, xs.length = n := ⟨_, rfl⟩
 rw [hn] at h2 hlt hr Hj
 have Hn := Lib.hid hn
 clear hn
 go_wp2
 refine wp_region_tail 12 (by kernel_rfl) (by kernel_rfl) ?_
 simp only [List.take_succ_cons, List.take_zero, List.drop_succ_cons, List.drop_zero]
 repeat (go_big_quiet_step ((go_at_call 283; refine Calls.quiet_of (slot_any b fr n j _ _ _ _ (by exact h0) (by exact h1) (by omega) (by omega) (by omega) (by omega) Hj))))
 refine wpQuiet_nil ?_
 rintro _ ⟨nq2, rfl⟩
 go_wp2
 refine Stage.out ?_
 go_wp2
 go_ret
 have hR := (HR.out.old ((Upd.refl _ _).drewN nq2)).put (by rw [Hn.out]; exact hlt) (xf, xi, xl, xa, xc) (n + 1) (by rw [Hn.out]) (j := j) (by rw [Hn.out]; exact Hj.out)
 refine ⟨rfl, some k, ⟨fr, len, hR⟩, Hs.out, ?_⟩
 exact (putL_upd (KI (xf, xi, xl, xa, xc)) (Hu.out.drewN nq2) (fun hk => by
  rcases Hs.out k rfl with h | h
  · exact .inr h
  · exact absurd hk (Nat.not_lt.2 h))).setCell (a := ⟨b, 2, none⟩) (fun _ => .inl rfl) _

theorem take_some {w : World} {b : Nat} {g : Option Nat} {room fr len xf xi xl xa xc : Nat} {xs : List It} (h : RI w b g room ((xf, xi, xl, xa, xc) :: xs) fr len) :
 Calls Tryz.prog 281 #[.pointer (some ⟨b, 0, none⟩)] w fun e w' => e = .returned (.tuple #[VI (xf, xi, xl, xa, xc), .bool true]) ∧ RingTurned KI 5 TR TE w w' b g room xs := by
 have hU1 : Upd Nowhere w (w.alloc (.cells zI TE)) := (Upd.refl _ _).alloc _
 have hB1 : Blk (w.alloc (.cells zI TE)) w.heap.size zI TE := Blk.new _ _ _
 have Hh := Lib.hid (head_in (h.old hU1))
 have hlts : ∀ k, RingOf b g k → k < w.heap.size := fun k hk => h.lts hk
 have HLTS := Lib.hid hlts
 cases g with
 | none => have := (h.nil rfl).1; have := h.le1; simp at this; omega
 | some k =>
 have hl1 := h.le1
 have hl2 := h.le2
 have hl3 := h.le3
 rw [List.length_cons] at hl1
 have H := Lib.hid h
 have HU1 := Lib.hid hU1
 have HB1 := Lib.hid hB1
 obtain ⟨i0, hi, hz0, hz1, hz2⟩ := info_parts info
 obtain ⟨n, hn⟩ : ∃ n, xs.length = n := ⟨_, rfl⟩
 have Hn := Lib.hid hn
 have hnl : n < len := by rw [← hn]; omega
 clear h hlts hU1 hB1
 go_enter Tryz.func281, Tryz.ntmps281
 go_wp2_with fail
 refine Hh.out.mono ?_
 rintro e w1 ⟨rfl, hu⟩
 clear Hh
 go_upto_region 3 with fail
 have hU2 : Upd Nowhere w (w1.alloc (.cells #[.int .u32 xf, .int .u32 xi, .int .u64 xl, .int .u64 xa, .int .i64 xc] TE)) := (HU1.out.trans hu (fun _ _ h => h)).alloc _
 have hB2 : Blk (w1.alloc (.cells #[.int .u32 xf, .int .u32 xi, .int .u64 xl, .int .u64 xa, .int .i64 xc] TE)) w.heap.size zI TE := (HB1.out.kept hu id).alloc _
 have hX2 : Blk (w1.alloc (.cells #[.int .u32 xf, .int .u32 xi, .int .u64 xl, .int .u64 xa, .int .i64 xc] TE)) w1.heap.size #[.int .u32 xf, .int .u32 xi, .int .u64 xl, .int .u64 xa, .int .i64 xc] TE := Blk.new _ _ _
 have hws : w.heap.size < w1.heap.size := Nat.lt_of_lt_of_le HB1.out.lt hu.size
 clear hu HB1 HU1
 obtain ⟨rb, hrb⟩ : ∃ rb, w.heap.size = rb := ⟨_, rfl⟩
 obtain ⟨xk, hxk⟩ : ∃ xk, w1.heap.size = xk := ⟨_, rfl⟩
 rw [hrb] at hB2 hws
 rw [hxk] at hX2 hws
 try simp only [hrb, hxk]
 generalize w1.alloc (.cells #[.int .u32 xf, .int .u32 xi, .int .u64 xl, .int .u64 xa, .int .i64 xc] TE) = w2 at *
 clear hxk
 have hR := H.out.old hU2
 have h0 : w2.cell? ⟨b, 0, none⟩ = some (.slice (some ⟨k, 0, none⟩) len len) := hR.blk.cellAt rfl
 have h1 : w2.cell? ⟨b, 1, none⟩ = some (.int .i64 fr) := hR.blk.cellAt rfl
 obtain ⟨hkb, hf, cur, hcur, hcs, _⟩ := hR.arr k rfl
 have hkl := HLTS.out k (.inr rfl)
 have hbl := HLTS.out b (.inl rfl)
 rw [hrb] at hkl hbl
 have Hcur := Lib.hid hcur
 have Hcs := Lib.hid hcs
 have HR := Lib.hid hR
 have HU2 := Lib.hid hU2
 have HB2 := Lib.hid hB2
 have HX2 := Lib.hid hX2
 have HRB := Lib.hid hrb
 clear hR hcur hcs hU2 hB2 hX2 hrb
 have e1 : (fr : Int) + 1 - fr = 1 := by omega
 go_wp2_with fail
 refine wp_region_tail 14 (by kernel_rfl) (by kernel_rfl) ?_
 simp only [List.take_succ_cons, List.take_zero, List.drop_succ_cons, List.drop_zero]
 repeat (go_big_quiet_step (fail))
 refine wpQuiet_nil ?_
 rintro _ ⟨nq2, rfl⟩
 refine wpList_clear1 rfl _ 299 rfl TE i0 ZI Tryz.underlying299 hi hz0 5 zeros5.1 zeros5.2 _ k (fr * 5) _ cur (by rfl) (Hcur.out.drewN nq2) (by rw [Hcs.out]; exact row_fits hf) ?_
 intro w3 cur3 hc3 hs3 hne3 hu3
 have hu3' : Upd (fun i => i = k) w2 w3 := ((Upd.refl _ w2).drewN nq2).trans hu3 (fun _ _ h => h)
 have hbl2 : b < w2.heap.size := HR.out.lt
 have hbk : ¬ b = k := Ne.symm hkb
 have hrk : ¬ rb = k := by omega
 have hxk' : ¬ xk = k := by omega
 have e0 : w3.cell? ⟨b, 0, none⟩ = some (.slice (some ⟨k, 0, none⟩) len len) := (hu3'.cell 0 hbl2 hbk).trans h0
 have e1' : w3.cell? ⟨b, 1, none⟩ = some (.int .i64 fr) := (hu3'.cell 1 hbl2 hbk).trans h1
 have e2 : w3.cell? ⟨b, 2, none⟩ = some (.int .i64 (n + 1 : Nat)) := (hu3'.cell 2 hbl2 hbk).trans (by rw [← Hn.out]; exact HR.out.blk.cellAt rfl)
 have y1 : w3.frozen? ⟨b, 1, none⟩ = false := (hu3'.frozen 1 hbl2 hbk).trans (HR.out.blk.free 1)
 have y2 : w3.frozen? ⟨b, 2, none⟩ = false := (hu3'.frozen 2 hbl2 hbk).trans (HR.out.blk.free 2)
 have e4 : ((n + 1 : Nat) : Int) - 1 = (n : Int) := by omega
 obtain ⟨j, hj⟩ : ∃ j, (fr + 1) % len = j := ⟨_, rfl⟩
 have HJ := Lib.hid hj
 have HU3 := Lib.hid hu3'
 have HC3 := Lib.hid hc3
 have HS3 := Lib.hid hs3
 have HN3 := Lib.hid hne3
 clear hu3 hu3' hc3 hs3 hne3 hj h0 h1 hi hz0 hz1 hz2 hn
 have hbr : ¬ b = rb := by omega
 have hbx : ¬ b = xk := by omega
 go_wp2_with fail
 refine Stage.out ?_
 go_upto_region 4 with fail
 go_upto_region 6 with (go_at_call 283; refine (slot_one b fr j _ _ _ _ (by exact e0) (by exact e1') (by omega) (by omega) (by omega) HJ).mono ?_; rintro e w' ⟨rfl, nq3, rfl⟩)
 have hU3 := HU3.out.drewN nq3
 have hR4 := HR.out.take hU3 Hcur.out (HC3.out.drewN nq3) HS3.out HN3.out HJ.out
 have hU4 : Upd (fun q => q = k ∨ q = b) w2 (((w3.drewN nq3).setCell ⟨b, 1, none⟩ (.int .i64 (j : Nat))).setCell ⟨b, 2, none⟩ (.int .i64 xs.length)) := ((hU3.mono (fun _ _ h => .inl h)).setCell (a := ⟨b, 1, none⟩) (fun _ => .inr rfl) _).setCell (a := ⟨b, 2, none⟩) (fun _ => .inr rfl) _
 rw [Hn.out] at hR4 hU4
 have hB4 := HB2.out.kept hU4 (fun h => by rcases h with h | h <;> omega)
 have hX4 := HX2.out.kept hU4 (fun h => by rcases h with h | h <;> omega)
 clear hU3 e0 e1' e2 y1 y2 HC3 HN3 HU3
 have HR4 := Lib.hid hR4
 have HU4 := Lib.hid hU4
 clear hR4 hU4
 generalize ((w3.drewN nq3).setCell ⟨b, 1, none⟩ (.int .i64 (j : Nat))).setCell ⟨b, 2, none⟩ (.int .i64 n) = w4 at *
 obtain ⟨c0, c1, c2, c3, c4, z0, z1, z2, z3, z4⟩ := cells5 hB4
 obtain ⟨p0, p1, p2, p3, p4, _, _, _, _, _⟩ := cells5 hX4
 have hrx : ¬ rb = xk := by omega
 have hS : ∀ q, RingOf b (some k) q → ¬ q = rb := fun q hq e => by
  subst e
  rcases hq with h | h
  · omega
  · have : k = q := Option.some.inj h; omega
 have HF : Hid (Upd (RingOf b (some k)) w w4) := Lib.hid ((HU2.out.any _).trans HU4.out (fun q _ h => by
  rcases h with h | h
  · exact .inr (by rw [h])
  · exact .inl h))
 clear hB4 hX4 HB2 HX2
 go_wp2_with fail
 refine bodyPost_ret (v := .tuple #[.agg #[.int .u32 xf, .int .u32 xi, .int .u64 xl, .int .u64 xa, .int .i64 xc], .bool true]) (by simp [results, Tryz.results281, go_sem, c0, c1, c2, c3, c4]) rfl ⟨rfl, some k, ⟨j, len, HR4.out.kept (S := fun q => q = rb) ?_ hS⟩, fun _ h => .inl h, ?_⟩
 · exact (((((Upd.refl (fun q => q = rb) w4).setCell (a := ⟨rb, 0, none⟩) (fun _ => rfl) _).setCell (a := ⟨rb, 1, none⟩) (fun _ => rfl) _).setCell (a := ⟨rb, 2, none⟩) (fun _ => rfl) _).setCell (a := ⟨rb, 3, none⟩) (fun _ => rfl) _).setCell (a := ⟨rb, 4, none⟩) (fun _ => rfl) _
 · repeat (first | with_reducible exact HF.out | with_reducible refine Upd.drewN ?_ _ | with_reducible refine Upd.drew ?_ | with_reducible refine Upd.setNew ?_ (by rw [HRB.out]; exact Nat.le_refl _) _)

/-- New. -/
theorem new_ok (w : World) (room : Nat) (h1 : 1 ≤ room) (h2 : room ≤ 65536) :
 Calls Tryz.prog 78 #[.int .i64 room] w fun e w' => e = .returned (.tuple #[.pointer (some ⟨w.heap.size, 0, none⟩), .int .i64 0]) ∧ RA w' w.heap.size none room [] ∧ Upd Nowhere w w' := by
 have d1 : decide (room < 1) = false := by simp; omega
 have d2 : decide (65536 < room) = false := by simp; omega
 have d3 : decide (room = 0) = false := by simp; omega
 go_enter Tryz.func78, Tryz.ntmps78
 go_wp2
 go_ret2
 exact ⟨rfl, ⟨0, 0, widI, Blk.new _ _ _, by simp, by omega, h2, fun _ => ⟨rfl, rfl⟩, fun k hk => by cases hk⟩, (Upd.refl _ _).alloc _⟩
end Go.Proofs.YtpgpjjkeginbbaaGreatDoor.RingW

