/- A ring of pacemaker/drr.item: growing, Put, Take, Clear, Last, All, New. -/
import Derived.Test.YtopibbaopglggaaPairD
import Derived.Test.YtopibbaopglggaaLaws
import Derived.Deep.CutBlock
namespace Go.Proofs.Ytopibbaopglggaa.PairD
open Go.RowKit Go.Proofs BigFrame

set_option maxHeartbeats 400000
theorem grow_none (b : Nat) (n : Nat) (la) (len cap : Nat) (w : World) (hn : n < len)
   (h0 : w.cell? ⟨b, 0, none⟩ = some (.slice la len cap)) (h2 : w.cell? ⟨b, 2, none⟩ = some (.int .i64 n)) :
   Calls Try.prog 83 #[.pointer (some ⟨b, 0, none⟩)] w fun e w' => e = .returned (.tuple #[]) ∧ ∃ k, w' = w.drewN k := by
  have hd : decide (n < len) = true := by simpa using hn
  go_enter Try.func83, Try.ntmps83
  go_wp2
  go_quiet (fail)
  go_wp2
  exact bodyPost_ret (results_none rfl _ _ _) rfl ⟨rfl, _, rfl⟩

theorem info : (Try.prog.info? TE).map (fun i => (i.zero, i.size, i.bytes)) = some (some Z, 2, 16) := by kernel_rfl

/-- The growing of a full array. -/
theorem grow_full (w : World) (b : Nat) (g : Option Nat) (room fr len : Nat) (xs : List (Int × Int)) (h : PairIn TR TE w b g room (xs.map el) fr len) (hn : xs.length = len) (hr : len < room) :
   Calls Try.prog 83 #[.pointer (some ⟨b, 0, none⟩)] w fun e w' => e = .returned (.tuple #[]) ∧ PairGrown TR TE w w' b g room (xs.map el) := by
  obtain ⟨i0, hi, hz0, hz1, hz2⟩ := info_parts info
  have hl2 := h.le2
  have hl3 := h.le3
  have hd : decide (len < len) = false := by simp
  have h0 := h.c0
  have h2 := h.c2
  have h3 := h.c3
  obtain ⟨la, hla⟩ : ∃ la, slv g len = .slice la len len := by
    cases g with
    | none => exact ⟨_, by rw [(h.nil rfl).1]; rfl⟩
    | some k => exact ⟨_, rfl⟩
  rw [hla] at h0
  replace hla := Lib.hid hla
  rw [List.length_map, hn] at h2
  replace hn := Lib.hid hn
  obtain ⟨L, hL, hLl, hLr⟩ : ∃ L : Nat, L = min (max (2 * len) 4) room ∧ len < L ∧ L ≤ room := ⟨_, rfl, by omega, by omega⟩
  have HL := Lib.hid hL
  have Hh := Lib.hid h
  clear h hL
  go_enter Try.func83, Try.ntmps83
  go_wp2
  go_quiet (fail)
  go_wp2
  refine wp_region_tail 12 (by kernel_rfl) (by kernel_rfl) ?_
  simp only [List.take_succ_cons, List.take_zero, List.drop_succ_cons, List.drop_zero]
  repeat (go_big_quiet_step (fail))
  refine wpQuiet_nil ?_
  rintro _ ⟨nq2, rfl⟩
  refine wpList_make_full _ rfl _ _ 160 rfl w.heap.size TE i0 Z 2 Try.underlying160 hi hz0 hz1 .i64 .i64 _ _ L rfl rfl ?q1 ?q1 (by rw [hz2]; omega) (by unfold maxLen; omega) (by simp) ?_
  case q1 => have := HL.out; subst this; split <;> split <;> omega
  generalize (if (room : Int) < _ then (room : Int) else _) = m2
  generalize (if 2 * (len : Int) < 4 then (4 : Int) else _) = m1
  intro w1 hown hgr
  have hu1 : Upd Nowhere w w1 := (((Upd.refl Nowhere w).drewN nq).drewN nq2).grown hgr (fun k _ h => by cases h)
  obtain ⟨cur0, hc0, hge, _, hcs, _⟩ := Blk.own hown
  have hR1 := Hh.out.kept hu1 (fun _ _ h => h)
  have e0 : w1.cell? ⟨b, 0, none⟩ = some (.slice la len len) := by rw [hu1.cell 0 Hh.out.lt id]; exact h0
  have e2 : w1.cell? ⟨b, 2, none⟩ = some (.int .i64 len) := by rw [hu1.cell 2 Hh.out.lt id]; exact h2
  clear h0 h2 h3
  go_wp2
  refine Stage.out ?_
  go_wp2
  have hsz : ((w.drewN nq).drewN nq2).heap.size = w.heap.size := rfl
  go_loopw [31] (fun i wr => ∃ (k : Nat) (cur : Array Value), k ≤ len ∧ i = .int .i64 k ∧ Blk wr w.heap.size cur TE ∧ cur.size = L * 2 ∧ (∀ i v, i < k → (xs.map el)[i]? = some v → cur[i * 2]? = some v.1 ∧ cur[i * 2 + 1]? = some v.2) ∧ Upd Nowhere w wr) (fun i _ => len - (intOf i).toNat)
  case atStart => exact ⟨0, cur0, by omega, rfl, hc0, by omega, fun i v h => by omega, hu1⟩
  case round =>
    clear hc0 hcs hge hu1 hR1 e0 e2 hown hgr hi hz0 hz1 hz2
    obtain ⟨k, cur, hk, rfl, hcur, hcs, hall, hu⟩ := hrel
    have hR := Hh.out.kept hu (fun _ _ h => h)
    have e0 : wr.cell? ⟨b, 0, none⟩ = some (.slice la len len) := by rw [← hla.out]; exact hR.c0
    have e1 : wr.cell? ⟨b, 1, none⟩ = some (.int .i64 fr) := hR.c1
    have z0 : wr.frozen? ⟨b, 0, none⟩ = false := hR.blk.free 0
    have z1 : wr.frozen? ⟨b, 1, none⟩ = false := hR.blk.free 1
    by_cases hlt : k < len
    · obtain ⟨x, hx⟩ : ∃ x, (xs.map el)[k]? = some (el x) := ⟨xs[k]'(by rw [hn.out]; exact hlt), by simp [hn.out, hlt]⟩
      obtain ⟨kk, hkk, hc, hc1⟩ := hR.atI hx
      subst hkk
      obtain rfl : la = some ⟨kk, 0, none⟩ := by have := hla.out; simpa [slv] using this.symm
      obtain ⟨hkb, hf, _⟩ := hR.arr kk rfl
      obtain ⟨j, hj⟩ : ∃ j, (fr + k) % len = j := ⟨_, rfl⟩
      have hjl : j < len := by rw [← hj]; exact Nat.mod_lt _ (by omega)
      rw [hj] at hc hc1
      simp only [el] at hc hc1
      have Hj := Lib.hid hj
      clear hj
      have hcz : wr.frozen? ⟨w.heap.size, k * 2, none⟩ = false := hcur.free _
      have hcz1 : wr.frozen? ⟨w.heap.size, k * 2 + 1, none⟩ = false := hcur.free _
      obtain ⟨y, hy⟩ : ∃ y, wr.cell? ⟨w.heap.size, k * 2, none⟩ = some y := ⟨cur[k * 2]'(by omega), by rw [hcur.cell]; simp⟩
      obtain ⟨y1, hy1⟩ : ∃ y, wr.cell? ⟨w.heap.size, k * 2 + 1, none⟩ = some y := ⟨cur[k * 2 + 1]'(by omega), by rw [hcur.cell]; simp⟩
      go_wp2
      refine wp_region_tail 12 (by kernel_rfl) (by kernel_rfl) ?_
      simp only [List.take_succ_cons, List.take_zero, List.drop_succ_cons, List.drop_zero]
      repeat (go_big_quiet_step ((go_at_call 84; refine Calls.quiet_of (slot_any b fr k j _ _ _ _ (by exact e0) (by exact e1) (by omega) (by omega) (by omega) (by omega) Hj))))
      refine wpQuiet_nil ?_
      rintro _ ⟨nq3, rfl⟩
      go_wp2
      refine Stage.out ?_
      go_wp2
      go_roundw
      case rel =>
        refine ⟨k + 1, (cur.setIfInBounds (k * 2) (.int .u64 x.1)).setIfInBounds (k * 2 + 1) (Value.int .i64 x.2), by omega, by go_num, ?_, by simpa using hcs, fun i v hi hv => ?_, ?_⟩
        · exact (hcur.set _ _).set _ _
        · by_cases hik : i = k
          · subst hik; rw [hx] at hv; obtain rfl := Option.some.inj hv; exact set2_at (by omega) _ _
          · obtain ⟨e1, e2⟩ := set2_ne (cur := cur) (Ne.symm hik) (.int .u64 x.1) (Value.int .i64 x.2); rw [e1, e2]; exact hall i v (by omega) hv
        · exact ((hu.drewN _).setNew (Nat.le_refl _) _).setNew (Nat.le_refl _) _
      case measure => simp [intOf]; omega
    · have hkl : k = len := by omega
      have hbw : b ≠ w.heap.size := by have := Hh.out.lt; omega
      go_wp2
      go_end0
      refine ⟨rfl, w.heap.size, 0, L, ⟨?_, by have := hn.out; simp; omega, hLr, hl3, (fun h => by cases h), fun k' hk' => ?_⟩, by have := hn.out; simp; omega, fun k' hk' => Or.inr (Nat.le_of_eq (Option.some.inj hk')), ?_⟩
      · exact (hR.blk.set 0 _).set 1 _
      · obtain rfl : w.heap.size = k' := by simpa using hk'
        refine ⟨Ne.symm hbw, by omega, cur, ((hcur.setOther (a := ⟨b, 0, none⟩) (Ne.symm hbw) _).setOther (a := ⟨b, 1, none⟩) (Ne.symm hbw) _), hcs, fun i v hv => ?_⟩
        have hi : i < xs.length := by
          rcases Nat.lt_or_ge i xs.length with h' | h'
          · exact h'
          · rw [List.getElem?_eq_none (by simpa using h')] at hv; cases hv
        have hn1 : xs.length = len := hn.out
        rw [Nat.zero_add, Nat.mod_eq_of_lt (by omega)]
        exact hall i v (by omega) hv
      · exact ((hu.any _).setCell (fun _ => .inl rfl) _).setCell (fun _ => .inl rfl) _

/-- grow, in whatever ring with room. -/
theorem grow_any (w : World) (b : Nat) (g : Option Nat) (room fr len : Nat) (xs : List (Int × Int)) (h : PairIn TR TE w b g room (xs.map el) fr len) (hr : xs.length < room) :
   Calls Try.prog 83 #[.pointer (some ⟨b, 0, none⟩)] w fun e w' => e = .returned (.tuple #[]) ∧ PairGrown TR TE w w' b g room (xs.map el) := by
  have hle : xs.length ≤ len := by simpa using h.le1
  rcases Nat.lt_or_ge xs.length len with hlt | hge
  · cases g with
    | none => have := (h.nil rfl).1; omega
    | some k =>
      refine (grow_none b xs.length _ len len w hlt h.c0 (by simpa using h.c2)).mono ?_
      rintro e w' ⟨rfl, n, rfl⟩
      exact ⟨rfl, k, fr, len, h.drewN n, by simpa using hlt, fun _ h => .inl h, (Upd.refl _ _).drewN n⟩
  · exact grow_full w b g room fr len xs h (by omega) (by omega)

/-- Put, where there is no room. -/
theorem put_full (w : World) (b : Nat) (g : Option Nat) (room fr len : Nat) (xs : List (Int × Int)) (x : Int × Int) (h : PairIn TR TE w b g room (xs.map el) fr len) (hr : xs.length = room) :
   Calls Try.prog 54 #[.pointer (some ⟨b, 0, none⟩), V x] w fun e w' => e = .returned (.bool false) ∧ Upd Nowhere w w' := by
  have h2 := h.c2
  have h3 := h.c3
  have hl3 := h.le3
  rw [List.length_map] at h2
  have he : ((room : Int) - xs.length == 0) = true := by simp; omega
  have hle : xs.length ≤ room := by omega
  clear h hr
  generalize xs.length = n at *
  obtain ⟨x0, x1⟩ := x
  have hU1 : Upd Nowhere w (w.alloc (.cells #[.int .u64 x0, Value.int .i64 x1] TE)) := (Upd.refl _ _).alloc _
  have k2 := cell_old hU1 h2
  have k3 := cell_old hU1 h3
  go_enter Try.func54, Try.ntmps54
  go_wp2_with fail
  refine (room_any _ _ _ _ k2 k3 (by omega) (by omega) (by omega)).mono ?_
  rintro e w' ⟨rfl, nq, rfl⟩
  go_wp2_with fail
  go_ret
  exact ⟨rfl, hU1.drewN nq⟩

theorem put_nil (w : World) (x : Int × Int) :
   Calls Try.prog 54 #[.pointer none, V x] w fun e w' => e = .returned (.bool false) ∧ Upd Nowhere w w' := by
  obtain ⟨x0, x1⟩ := x
  go_enter Try.func54, Try.ntmps54
  go_wp2_with fail
  refine (room_nil _).mono ?_
  rintro e w' ⟨rfl, rfl⟩
  go_wp2_with fail
  go_ret
  exact ⟨rfl, (Upd.refl _ _).alloc _⟩

/-- Put, where there is room. -/
theorem put_room (w : World) (b : Nat) (g : Option Nat) (room fr len : Nat) (xs : List (Int × Int)) (x : Int × Int) (h : PairIn TR TE w b g room (xs.map el) fr len) (hr : xs.length < room) :
   Calls Try.prog 54 #[.pointer (some ⟨b, 0, none⟩), V x] w fun e w' => e = .returned (.bool true) ∧ PairTurned TR TE w w' b g room ((xs ++ [x]).map el) := by
  have h2 := h.c2
  have h3 := h.c3
  have hl3 := h.le3
  rw [List.length_map] at h2
  have he : ((room : Int) - xs.length == 0) = false := by simp; omega
  have Hg := fun u (hu : Upd Nowhere w u) => Lib.hid (grow_any u b g room fr len xs (h.kept hu (fun _ _ h => h)) hr)
  have hlts : ∀ k, RingOf b g k → k < w.heap.size := fun k hk => h.lts hk
  clear h
  obtain ⟨x0, x1⟩ := x
  have hU1 : Upd Nowhere w (w.alloc (.cells #[.int .u64 x0, Value.int .i64 x1] TE)) := (Upd.refl _ _).alloc _
  have hX1 : Blk (w.alloc (.cells #[.int .u64 x0, Value.int .i64 x1] TE)) w.heap.size #[.int .u64 x0, Value.int .i64 x1] TE := Blk.new _ _ _
  have k2 := cell_old hU1 h2
  have k3 := cell_old hU1 h3
  go_enter Try.func54, Try.ntmps54
  go_wp2_with fail
  refine (room_any _ _ _ _ k2 k3 (by omega) (by omega) (by omega)).mono ?_
  rintro e w' ⟨rfl, nq, rfl⟩
  go_wp2_with fail
  refine (Hg _ (hU1.drewN nq)).out.mono ?_
  clear Hg h2 h3 he k2 k3
  rintro e w1 ⟨rfl, k, fr, len, hR, hlt, hsn, hu⟩
  have hX : Blk w1 w.heap.size #[.int .u64 x0, Value.int .i64 x1] TE := (hX1.drewN nq).kept hu (fun hk => absurd (hlts _ hk) (Nat.lt_irrefl _))
  have hsn' : SameOrNew w g (some k) := fun q hq => (hsn q hq).imp id (fun h => by simp at h; omega)
  have hk' : k < w.heap.size → RingOf b g k := fun hk => by
    rcases hsn' k rfl with h | h
    · exact .inr h
    · exact absurd hk (Nat.not_lt.2 h)
  have hUw : Upd (RingOf b g) w w1 := ((hU1.drewN nq).any _).trans hu (fun _ _ h => h)
  have h0 : w1.cell? ⟨b, 0, none⟩ = some (.slice (some ⟨k, 0, none⟩) len len) := hR.c0
  have h1 := hR.c1
  have h2 := hR.c2
  have hl2 := hR.le2
  rw [List.length_map] at h2 hlt
  have z2 := hR.blk.free 2
  obtain ⟨hkb, hf, cur, hcur, hcs, _⟩ := hR.arr k rfl
  obtain ⟨j, hj⟩ : ∃ j, (fr + xs.length) % len = j := ⟨_, rfl⟩
  have hjl : j < len := by rw [← hj]; exact Nat.mod_lt _ (by omega)
  have zj := hcur.free (j * 2)
  have zj1 := hcur.free (j * 2 + 1)
  obtain ⟨y, hy⟩ : ∃ y, w1.cell? ⟨k, j * 2, none⟩ = some y := ⟨cur[j * 2]'(by omega), by rw [hcur.cell]; simp⟩
  obtain ⟨y1, hy1⟩ : ∃ y, w1.cell? ⟨k, j * 2 + 1, none⟩ = some y := ⟨cur[j * 2 + 1]'(by omega), by rw [hcur.cell]; simp⟩
  obtain ⟨cx0, cx1, _, _⟩ := cells2 hX
  have HR := Lib.hid hR
  have Hj := Lib.hid hj
  have Hk := Lib.hid hk'
  have Hs := Lib.hid hsn'
  have Hu := Lib.hid hUw
  clear hR hj hcur hcs hu hsn hsn' hk' hUw hX hX1 hU1 hlts
  obtain ⟨n, hn⟩ : ∃ n, xs.length = n := ⟨_, rfl⟩
  rw [hn] at h2 hlt hr Hj
  have Hn := Lib.hid hn
  clear hn
  go_wp2
  refine wp_region_tail 12 (by kernel_rfl) (by kernel_rfl) ?_
  simp only [List.take_succ_cons, List.take_zero, List.drop_succ_cons, List.drop_zero]
  repeat (go_big_quiet_step ((go_at_call 84; refine Calls.quiet_of (slot_any b fr n j _ _ _ _ (by exact h0) (by exact h1) (by omega) (by omega) (by omega) (by omega) Hj))))
  refine wpQuiet_nil ?_
  rintro _ ⟨nq2, rfl⟩
  go_wp2
  refine Stage.out ?_
  go_wp2
  go_ret
  have hR := HR.out.put (by simpa [Hn.out] using hlt) (el (x0, x1)) (n + 1) (by simp [Hn.out])
  rw [List.length_map, Hn.out, Hj.out] at hR
  refine ⟨rfl, some k, ⟨fr, len, by rw [List.map_append]; exact hR.drewN nq2⟩, Hs.out, ?_⟩
  exact (((Hu.out.drewN nq2).setCell (a := ⟨k, j * 2, none⟩) Hk.out _).setCell (a := ⟨k, j * 2 + 1, none⟩) Hk.out _).setCell (a := ⟨b, 2, none⟩) (fun _ => .inl rfl) _

theorem one_cells : ∀ v ∈ (Value.cells Z).toList, v.oneCell' = true := fun v hv => by
  have e : (Value.cells Z).toList = [.int .u64 0, Value.int .i64 0] := rfl
  rw [e] at hv
  rcases List.mem_cons.1 hv with rfl | hv
  · rfl
  · rcases List.mem_cons.1 hv with rfl | hv
    · rfl
    · cases hv
theorem take_nil (w : World) :
   Calls Try.prog 58 #[.pointer none] w fun e w' => e = .returned (.tuple #[Z, .bool false]) ∧ Upd Nowhere w w' := by
  have ha := fun u => Lib.hid (head_nil u)
  have hB1 : Blk (w.alloc (.cells #[.int .u64 0, Value.int .i64 0] TE)) w.heap.size #[.int .u64 0, Value.int .i64 0] TE := Blk.new _ _ _
  have hU1 : Upd Nowhere w (w.alloc (.cells #[.int .u64 0, Value.int .i64 0] TE)) := (Upd.refl _ _).alloc _
  go_enter Try.func58, Try.ntmps58
  go_wp2_with fail
  refine (ha _).out.mono ?_
  rintro e w3 ⟨rfl, u3⟩
  have hB3 := hB1.kept u3 id
  have hU2 := hU1.trans u3 (fun _ _ h => h)
  clear hB1 hU1 u3
  have hl := hB3.lt
  obtain ⟨c0, c1, z0, z1⟩ := cells2 hB3
  go_wp2_with fail
  exact bodyPost_ret (v := .tuple #[Z, .bool false]) (by simp [results, Try.results58, go_sem, c0, c1, hl]) rfl ⟨rfl, (by repeat (first | with_reducible exact hU2 | with_reducible refine Upd.drewN ?_ _ | with_reducible refine Upd.drew ?_ | with_reducible refine Upd.alloc ?_ _ | with_reducible refine Upd.setNew ?_ (Nat.le_refl _) _))⟩

theorem take_empty (w : World) (b : Nat) (g : Option Nat) (room fr len : Nat) (h : PairIn TR TE w b g room [] fr len) :
   Calls Try.prog 58 #[.pointer (some ⟨b, 0, none⟩)] w fun e w' => e = .returned (.tuple #[Z, .bool false]) ∧ Upd Nowhere w w' := by
  have ha : ∀ u, Upd Nowhere w u → Hid (Calls Try.prog 57 #[.pointer (some ⟨b, 0, none⟩)] u fun e w' => e = .returned (.tuple #[Z, .bool false]) ∧ Upd Nowhere u w') := fun u hu => Lib.hid (head_any u b g room fr len [] (h.kept hu (fun _ _ h => h)))
  have hB1 : Blk (w.alloc (.cells #[.int .u64 0, Value.int .i64 0] TE)) w.heap.size #[.int .u64 0, Value.int .i64 0] TE := Blk.new _ _ _
  have hU1 : Upd Nowhere w (w.alloc (.cells #[.int .u64 0, Value.int .i64 0] TE)) := (Upd.refl _ _).alloc _
  go_enter Try.func58, Try.ntmps58
  go_wp2_with fail
  refine (ha _ hU1).out.mono ?_
  rintro e w3 ⟨rfl, u3⟩
  have hB3 := hB1.kept u3 id
  have hU2 := hU1.trans u3 (fun _ _ h => h)
  clear hB1 hU1 u3
  have hl := hB3.lt
  obtain ⟨c0, c1, z0, z1⟩ := cells2 hB3
  go_wp2_with fail
  exact bodyPost_ret (v := .tuple #[Z, .bool false]) (by simp [results, Try.results58, go_sem, c0, c1, hl]) rfl ⟨rfl, (by repeat (first | with_reducible exact hU2 | with_reducible refine Upd.drewN ?_ _ | with_reducible refine Upd.drew ?_ | with_reducible refine Upd.alloc ?_ _ | with_reducible refine Upd.setNew ?_ (Nat.le_refl _) _))⟩

theorem take_some (w : World) (b : Nat) (g : Option Nat) (room fr len : Nat) (x : Int × Int) (xs : List (Int × Int)) (h : PairIn TR TE w b g room ((x :: xs).map el) fr len) :
   Calls Try.prog 58 #[.pointer (some ⟨b, 0, none⟩)] w fun e w' => e = .returned (.tuple #[V x, .bool true]) ∧ PairTurned TR TE w w' b g room (xs.map el) := by
  obtain ⟨x0, x1⟩ := x
  have hh : ∀ u, Upd Nowhere w u → Hid (Calls Try.prog 57 #[.pointer (some ⟨b, 0, none⟩)] u fun e w' => e = .returned (.tuple #[.agg #[.int .u64 x0, Value.int .i64 x1], .bool true]) ∧ Upd Nowhere u w') := fun u hu => Lib.hid (head_any u b g room fr len ((x0, x1) :: xs) (h.kept hu (fun _ _ h => h)))
  cases g with
  | none => have := (h.nil rfl).1; have := h.le1; simp at this; omega
  | some k =>
  have hB1 : Blk (w.alloc (.cells #[.int .u64 0, Value.int .i64 0] TE)) w.heap.size #[.int .u64 0, Value.int .i64 0] TE := Blk.new _ _ _
  have hU1 : Upd Nowhere w (w.alloc (.cells #[.int .u64 0, Value.int .i64 0] TE)) := (Upd.refl _ _).alloc _
  have hlts : ∀ q, RingOf b (some k) q → q < w.heap.size := fun q hq => h.lts hq
  have hkw := hlts k (.inr rfl)
  have hbw := hlts b (.inl rfl)
  have hl3 := h.le3
  have hl2 := h.le2
  obtain ⟨i0, hi, hz0, hz1, hz2⟩ := info_parts info
  have H := Lib.hid h
  clear h hlts
  go_enter Try.func58, Try.ntmps58
  go_wp2_with fail
  refine (hh _ hU1).out.mono ?_
  rintro e w3 ⟨rfl, u3⟩
  have hB3 := (hB1.kept u3 id).alloc (.cells #[.int .u64 x0, Value.int .i64 x1] TE)
  have hX3 : Blk (w3.alloc (.cells #[.int .u64 x0, Value.int .i64 x1] TE)) w3.heap.size #[.int .u64 x0, Value.int .i64 x1] TE := Blk.new _ _ _
  have hU3 := (hU1.trans u3 (fun _ _ h => h)).alloc (.cells #[.int .u64 x0, Value.int .i64 x1] TE)
  have h := H.out.kept hU3 (fun _ _ h => h)
  have hs3 := u3.size
  simp at hs3
  clear hB1 hU1 u3 hh
  go_upto_region 3 with fail
  generalize w3.alloc (.cells #[.int .u64 x0, Value.int .i64 x1] TE) = w4 at *
  generalize w3.heap.size = B3 at *
  have h0 : w4.cell? ⟨b, 0, none⟩ = some (.slice (some ⟨k, 0, none⟩) len len) := h.c0
  have h1 := h.c1
  have h2 := h.c2
  have hl1 := h.le1
  rw [List.length_map, List.length_cons] at h2 hl1
  obtain ⟨hkb, hf, cur, hcur, hcs, _⟩ := h.arr k rfl
  have H4 := Lib.hid h
  have z1 := h.blk.free 1
  have z2 := h.blk.free 2
  have hzl : (Value.cells Z).toList.length = 2 := rfl
  have Hcur := Lib.hid hcur
  have Hcs := Lib.hid hcs
  have HU3 := Lib.hid hU3
  have HB3 := Lib.hid hB3
  have HX3 := Lib.hid hX3
  clear h hcur hcs hU3 hB3 hX3
  obtain ⟨n, hn⟩ : ∃ n, xs.length = n := ⟨_, rfl⟩
  rw [hn] at h2 hl1
  have Hn := Lib.hid hn
  clear hn
  refine wp_region_tail 14 (by kernel_rfl) (by kernel_rfl) ?_
  simp only [List.take_succ_cons, List.take_zero, List.drop_succ_cons, List.drop_zero]
  repeat (go_big_quiet_step (fail))
  refine wpQuiet_nil ?_
  rintro _ ⟨nq2, rfl⟩
  refine wpList_clear1 rfl _ 160 rfl TE i0 Z Try.underlying160 hi hz0 one_cells _ k (fr * 2) _ cur (by rfl) Hcur.out (by rw [Hcs.out, hzl]; omega) ?_
  intro w2 hc2 hu2
  have hu2' : Upd (fun i => i = k) w4 w2 := ((Upd.refl _ w4).drewN nq2).trans hu2 (fun _ _ h => h)
  have hw4 := HU3.out.size
  have e0 := (hu2'.cell 0 (Nat.lt_of_lt_of_le hbw hw4) (Ne.symm hkb)).trans h0
  have e1 := (hu2'.cell 1 (Nat.lt_of_lt_of_le hbw hw4) (Ne.symm hkb)).trans h1
  have e2 := (hu2'.cell 2 (Nat.lt_of_lt_of_le hbw hw4) (Ne.symm hkb)).trans h2
  have y1 := (hu2'.frozen 1 (Nat.lt_of_lt_of_le hbw hw4) (Ne.symm hkb)).trans z1
  have y2 := (hu2'.frozen 2 (Nat.lt_of_lt_of_le hbw hw4) (Ne.symm hkb)).trans z2
  have hB5 := HB3.out.kept hu2' (fun h => by omega)
  have hX5 := HX3.out.kept hu2' (fun h => by omega)
  obtain ⟨c0, c1, f0, f1⟩ := cells2 hB5
  obtain ⟨d0, d1, g0, g1⟩ := cells2 hX5
  have Hc2 := Lib.hid hc2
  have Hu2 := Lib.hid hu2'
  clear hc2 hu2 hu2' h0 h1 h2 z1 z2 hi hz0 hz1 hz2 hB5 hX5
  obtain ⟨j, hj⟩ : ∃ j, (fr + 1) % len = j := ⟨_, rfl⟩
  have Hj := Lib.hid hj
  clear hj
  have nb1 : ¬ w.heap.size = b := by omega
  have nb2 : ¬ B3 = b := by omega
  have nb3 : ¬ b = w.heap.size := by omega
  have nb4 : ¬ b = B3 := by omega
  go_wp2
  refine Stage.out ?_
  go_wp2_with (go_at_call 84; refine (slot_one b fr j _ _ _ _ (by exact e0) (by exact e1) (by omega) (by omega) (by omega) Hj).mono ?_; rintro e w' ⟨rfl, nq3, rfl⟩)
  have hR := H4.out.take Hu2.out Hcur.out Hc2.out (laid_size _ _ _ (by rw [Hcs.out, hzl]; omega)) (fun i hi hi2 => laid_ne _ _ _ _ (by rw [hzl]; omega) (by rw [Hcs.out, hzl]; omega))
  rw [List.length_map, Hn.out, Hj.out] at hR
  refine bodyPost_ret (v := .tuple #[.agg #[.int .u64 x0, Value.int .i64 x1], .bool true]) (by simp [results, Try.results58, go_sem, c0, c1]) rfl ⟨rfl, some k, ⟨j, len, ?_⟩, SameOrNew.refl _ _, ?_⟩
  · exact ((hR.drewN nq3).kept (S := fun q => q = w.heap.size) (Upd.setCell (S := fun q => q = w.heap.size) (a := ⟨w.heap.size, 0, none⟩) (Upd.refl _ _) (fun _ => rfl) (.int .u64 x0)) (fun q hq e => by rcases hq with rfl | hq; exact nb3 e; obtain rfl := Option.some.inj hq; omega)).kept (S := fun q => q = w.heap.size) (Upd.setCell (S := fun q => q = w.heap.size) (a := ⟨w.heap.size, 1, none⟩) (Upd.refl _ _) (fun _ => rfl) (Value.int .i64 x1)) (fun q hq e => by rcases hq with rfl | hq; exact nb3 e; obtain rfl := Option.some.inj hq; omega)
  · exact ((((((HU3.out.any _).trans Hu2.out (fun i _ h => .inr (by rw [h]))).drewN nq3).setCell (a := ⟨b, 1, none⟩) (fun _ => .inl rfl) _).setCell (a := ⟨b, 2, none⟩) (fun _ => .inl rfl) _).setNew (a := ⟨w.heap.size, 0, none⟩) (Nat.le_refl _) _).setNew (a := ⟨w.heap.size, 1, none⟩) (Nat.le_refl _) _

end Go.Proofs.Ytopibbaopglggaa.PairD
