/- RingU, RingU2, RingU3, RingU4, one behind the other. -/
import Derived.Test.YtdddfmdcjjbegaaGreatProg
import Derived.Test.YtdddfmdcjjbegaaGreatMeA
import Derived.Lib.Hide
import Derived.Laws.MakeOwn
namespace Go.Proofs.YtdddfmdcjjbegaaGreat.RingU
open Go.RowKit Go.Proofs BigFrame

abbrev TR : TypeId := 209
abbrev TE : TypeId := 24

set_option maxHeartbeats 400000
theorem room_any (b : Nat) (n room : Int) (w : World) (hn : w.cell? ⟨b, 2, none⟩ = some (.int .i64 n)) (hr : w.cell? ⟨b, 3, none⟩ = some (.int .i64 room))
 (h0 : 0 ≤ n) (h1 : n ≤ room) (h2 : room ≤ 65536) :
 Calls Tryz.prog 94 #[.pointer (some ⟨b, 0, none⟩)] w fun e w' => e = .returned (.int .i64 (room - n)) ∧ ∃ k, w' = w.drewN k := by
 go_enter Tryz.func94, Tryz.ntmps94
 go_wp2
 go_quiet (fail)
 go_wp2
 go_ret
 exact ⟨rfl, _, rfl⟩
theorem slot_any (b : Nat) (fr i j : Nat) (la) (len cap : Nat) (w : World) (hr : w.cell? ⟨b, 0, none⟩ = some (.slice la len cap)) (hn : w.cell? ⟨b, 1, none⟩ = some (.int .i64 fr))
 (h2 : fr ≤ 65536) (h3 : i ≤ 65536) (h4 : 0 < len) (h5 : len ≤ 65536) (hj : Hid ((fr + i) % len = j)) :
 Calls Tryz.prog 119 #[.pointer (some ⟨b, 0, none⟩), .int .i64 i] w fun e w' => e = .returned (.int .i64 j) ∧ ∃ k, w' = w.drewN k := by
 go_enter Tryz.func119, Tryz.ntmps119
 go_wp2
 go_quiet (fail)
 go_wp2
 go_ret
 exact ⟨ret_int (by rw [← hj.out]; rfl), _, rfl⟩
theorem slot_one (b : Nat) (fr j : Nat) (la) (len cap : Nat) (w : World) (hr : w.cell? ⟨b, 0, none⟩ = some (.slice la len cap)) (hn : w.cell? ⟨b, 1, none⟩ = some (.int .i64 fr))
 (h2 : fr ≤ 65536) (h4 : 0 < len) (h5 : len ≤ 65536) (hj : Hid ((fr + 1) % len = j)) :
 Calls Tryz.prog 119 #[.pointer (some ⟨b, 0, none⟩), .int .i64 1] w fun e w' => e = .returned (.int .i64 j) ∧ ∃ k, w' = w.drewN k :=
 slot_any b fr 1 j la len cap w hr hn h2 (by omega) h4 h5 hj
theorem len_any (b : Nat) (n : Int) (w : World) (hn : w.cell? ⟨b, 2, none⟩ = some (.int .i64 n)) :
 Calls Tryz.prog 139 #[.pointer (some ⟨b, 0, none⟩)] w fun e w' => e = .returned (.int .i64 n) ∧ w = w' := by
 go_enter Tryz.func139, Tryz.ntmps139
 go_wp2
 go_ret
 exact ⟨rfl, rfl⟩
/-- At a place where there is something. -/
theorem at_in (b g : Nat) (fr i len n j : Nat) (x : Int) (w : World) (hi : i < n) (hl : n ≤ len) (h3 : len ≤ 65536) (hf : fr < len)
 (h0 : w.cell? ⟨b, 0, none⟩ = some (.slice (some ⟨g, 0, none⟩) len len)) (h1 : w.cell? ⟨b, 1, none⟩ = some (.int .i64 fr)) (h2 : w.cell? ⟨b, 2, none⟩ = some (.int .i64 n))
 (hj : Hid ((fr + i) % len = j)) (hx : w.cell? ⟨g, j, none⟩ = some (Value.int .u64 x)) :
 Calls Tryz.prog 134 #[.pointer (some ⟨b, 0, none⟩), .int .i64 i] w fun e w' => e = .returned (.tuple #[Value.int .u64 x, .bool true]) ∧ ∃ k, w' = w.drewN k := by
 have hm : j < len := by rw [← hj.out]; exact Nat.mod_lt _ (by omega)
 have hd : decide ((i : Int) < 0) = false := by simp
 have he : decide (n ≤ i) = false := by simp; omega
 go_enter Tryz.func134, Tryz.ntmps134
 go_wp2_with (go_at_call 139; refine (len_any _ _ _ h2).mono ?_; rintro e w' ⟨rfl, rfl⟩)
 go_quiet ((go_at_call 119; refine Calls.quiet_of (slot_any b fr i j _ _ _ _ h0 h1 (by omega) (by omega) (by omega) (by omega) hj)))
 go_wp2
 go_ret2
 exact ⟨rfl, _, rfl⟩
theorem at_out (b : Nat) (i : Int) (n : Nat) (w : World) (hi : i < 0 ∨ (n : Int) ≤ i)
 (h2 : w.cell? ⟨b, 2, none⟩ = some (.int .i64 n)) :
 Calls Tryz.prog 134 #[.pointer (some ⟨b, 0, none⟩), .int .i64 i] w fun e w' => e = .returned (.tuple #[Value.int .u64 0, .bool false]) ∧ w = w' := by
 by_cases hd : i < 0
 · go_enter Tryz.func134, Tryz.ntmps134
   go_wp2_with (go_at_call 139; refine (len_any _ _ _ h2).mono ?_; rintro e w' ⟨rfl, rfl⟩)
   go_ret2
   exact ⟨rfl, rfl⟩
 · have hd' : decide (i < 0) = false := by simp; omega
   have he : decide (↑n ≤ i) = true := by simp; omega
   go_enter Tryz.func134, Tryz.ntmps134
   go_wp2_with (go_at_call 139; refine (len_any _ _ _ h2).mono ?_; rintro e w' ⟨rfl, rfl⟩)
   go_ret2
   exact ⟨rfl, rfl⟩
/-- At, of a ring: what its list says. -/
def atOf (xs : List Value) (i : Int) : Value := if 0 ≤ i then match xs[i.toNat]? with | some v => .tuple #[v, .bool true] | none => .tuple #[Value.int .u64 0, .bool false] else .tuple #[Value.int .u64 0, .bool false]
theorem at_any (w : World) (b : Nat) (g : Option Nat) (room fr len : Nat) (xs : List Int) (i : Int) (hi : i ≤ 9223372036854775807) (h : RingIn TR TE w b g room (xs.map (Value.int .u64 ·)) fr len) :
 Calls Tryz.prog 134 #[.pointer (some ⟨b, 0, none⟩), .int .i64 i] w fun e w' => e = .returned (atOf (xs.map (Value.int .u64 ·)) i) ∧ ∃ k, w' = w.drewN k := by
 rcases Int.lt_or_le i 0 with hneg | hpos
 · refine (at_out b i _ w (.inl hneg) h.c2).mono ?_
   rintro e w' ⟨rfl, rfl⟩
   exact ⟨by simp [atOf, show ¬ (0 ≤ i) by omega], 0, rfl⟩
 · obtain ⟨i, rfl⟩ := Int.eq_ofNat_of_zero_le hpos
   rcases Nat.lt_or_ge i xs.length with hlt | hge
   · have hx : (xs.map (Value.int .u64 ·))[i]? = some (Value.int .u64 xs[i]) := by simp [hlt]
     obtain ⟨k, hk, hc⟩ := h.atI hx
     subst hk
     obtain ⟨_, hf, _⟩ := h.arr k rfl
     have hlen : (xs.map (Value.int .u64 ·)).length = xs.length := by simp
     have h2 := h.c2
     have hl1 := h.le1
     rw [hlen] at h2 hl1
     have := h.le2
     have := h.le3
     refine (at_in b k fr i len xs.length _ xs[i] w hlt hl1 (by omega) hf h.c0 h.c1 h2 rfl hc).mono ?_
     rintro e w' ⟨rfl, hw⟩
     exact ⟨by simp [atOf, hlt], hw⟩
   · refine (at_out b i xs.length w (.inr (by omega)) (by simpa using h.c2)).mono ?_
     rintro e w' ⟨rfl, rfl⟩
     exact ⟨by simp [atOf, hge], 0, rfl⟩
theorem head_any (w : World) (b : Nat) (g : Option Nat) (room fr len : Nat) (xs : List Int) (h : RingIn TR TE w b g room (xs.map (Value.int .u64 ·)) fr len) :
 Calls Tryz.prog 118 #[.pointer (some ⟨b, 0, none⟩)] w fun e w' => e = .returned (atOf (xs.map (Value.int .u64 ·)) 0) ∧ ∃ k, w' = w.drewN k := by
 have ha := Lib.hid (at_any w b g room fr len xs 0 (by omega) h)
 cases xs with
 | nil =>
   have e1 : atOf ([].map (Value.int .u64 ·)) 0 = .tuple #[Value.int .u64 0, .bool false] := rfl
   rw [e1] at ha ⊢
   go_enter Tryz.func118, Tryz.ntmps118
   go_wp2_with (go_at_call 134; refine ha.out.mono ?_; rintro e w' ⟨rfl, nq, rfl⟩)
   go_ret2
   exact ⟨rfl, _, rfl⟩
 | cons x r =>
   have e1 : atOf ((x :: r).map (Value.int .u64 ·)) 0 = .tuple #[Value.int .u64 x, .bool true] := rfl
   rw [e1] at ha ⊢
   go_enter Tryz.func118, Tryz.ntmps118
   go_wp2_with (go_at_call 134; refine ha.out.mono ?_; rintro e w' ⟨rfl, nq, rfl⟩)
   go_ret2
   exact ⟨rfl, _, rfl⟩
end Go.Proofs.YtdddfmdcjjbegaaGreat.RingU
namespace Go.Proofs.YtdddfmdcjjbegaaGreat.RingU
open Go.RowKit Go.Proofs BigFrame

set_option maxHeartbeats 400000
theorem grow_none (b : Nat) (n : Nat) (la) (len cap : Nat) (w : World) (hn : n < len)
 (h0 : w.cell? ⟨b, 0, none⟩ = some (.slice la len cap)) (h2 : w.cell? ⟨b, 2, none⟩ = some (.int .i64 n)) :
 Calls Tryz.prog 120 #[.pointer (some ⟨b, 0, none⟩)] w fun e w' => e = .returned (.tuple #[]) ∧ ∃ k, w' = w.drewN k := by
 have hd : decide (n < len) = true := by simpa using hn
 go_enter Tryz.func120, Tryz.ntmps120
 go_wp2
 go_quiet (fail)
 go_wp2
 exact bodyPost_ret (results_none rfl _ _ _) rfl ⟨rfl, _, rfl⟩

theorem info : (Tryz.prog.info? TE).map (fun i => (i.zero, i.size, i.bytes)) = some (some (Value.int .u64 0), 1, 8) := by kernel_rfl

/-- The growing of a full array. -/
theorem grow_full (w : World) (b : Nat) (g : Option Nat) (room fr len : Nat) (xs : List Int) (h : RingIn TR TE w b g room (xs.map (Value.int .u64 ·)) fr len) (hn : xs.length = len) (hr : len < room) :
 Calls Tryz.prog 120 #[.pointer (some ⟨b, 0, none⟩)] w fun e w' => e = .returned (.tuple #[]) ∧ RingGrown TR TE w w' b g room (xs.map (Value.int .u64 ·)) := by
 obtain ⟨i0, hi, hz0, hz1, hz2⟩ := info_parts info
 have hl2 := h.le2
 have hl3 := h.le3
 have hd : decide (len < len) = false := by simp
 have h0 := h.c0
 have h2 := h.c2
 have h3 := h.c3
 obtain ⟨la, hla⟩ : ∃ la, slv g len = .slice la len len := by
  cases g with
  | none => exact ⟨_, by rw [(h.nil rfl).1]; rfl⟩
  | some k => exact ⟨_, rfl⟩
 rw [hla] at h0
 replace hla := Lib.hid hla
 rw [List.length_map, hn] at h2
 replace hn := Lib.hid hn
 obtain ⟨L, hL, hLl, hLr⟩ : ∃ L : Nat, L = min (max (2 * len) 4) room ∧ len < L ∧ L ≤ room := ⟨_, rfl, by omega, by omega⟩
 have HL := Lib.hid hL
 have Hh := Lib.hid h
 clear h hL
 go_enter Tryz.func120, Tryz.ntmps120
 go_wp2
 go_quiet (fail)
 go_wp2
 refine wp_region_tail 12 (by kernel_rfl) (by kernel_rfl) ?_
 simp only [List.take_succ_cons, List.take_zero, List.drop_succ_cons, List.drop_zero]
 repeat (go_big_quiet_step (fail))
 refine wpQuiet_nil ?_
 rintro _ ⟨nq2, rfl⟩
 refine wpList_make_full _ rfl _ _ 131 rfl w.heap.size TE i0 (Value.int .u64 0) 1 Tryz.underlying131 hi hz0 hz1 .i64 .i64 _ _ L rfl rfl ?q1 ?q1 (by rw [hz2]; omega) (by unfold maxLen; omega) (by simp) ?_
 case q1 => have := HL.out; subst this; split <;> split <;> omega
 generalize (if (room : Int) < _ then (room : Int) else _) = m2
 generalize (if 2 * (len : Int) < 4 then (4 : Int) else _) = m1
 intro w1 hown hgr
 have hu1 : Upd Nowhere w w1 := (((Upd.refl Nowhere w).drewN nq).drewN nq2).grown hgr (fun k _ h => by cases h)
 obtain ⟨cur0, hc0, hge, _, hcs, _⟩ := Blk.own hown
 have hR1 := Hh.out.kept hu1 (fun _ _ h => h)
 have e0 : w1.cell? ⟨b, 0, none⟩ = some (.slice la len len) := by rw [hu1.cell 0 Hh.out.lt id]; exact h0
 have e2 : w1.cell? ⟨b, 2, none⟩ = some (.int .i64 len) := by rw [hu1.cell 2 Hh.out.lt id]; exact h2
 clear h0 h2 h3
 go_wp2
 refine Stage.out ?_
 go_wp2
 have hsz : ((w.drewN nq).drewN nq2).heap.size = w.heap.size := rfl
 go_loopw [31] (fun i wr => ∃ (k : Nat) (cur : Array Value), k ≤ len ∧ i = .int .i64 k ∧ Blk wr w.heap.size cur TE ∧ cur.size = L ∧ (∀ i v, i < k → (xs.map (Value.int .u64 ·))[i]? = some v → cur[i]? = some v) ∧ Upd Nowhere w wr) (fun i _ => len - (intOf i).toNat)
 case atStart => exact ⟨0, cur0, by omega, rfl, hc0, by omega, fun i v h => by omega, hu1⟩
 case round =>
  clear hc0 hcs hge hu1 hR1 e0 e2 hown hgr hi hz0 hz1 hz2
  obtain ⟨k, cur, hk, rfl, hcur, hcs, hall, hu⟩ := hrel
  have hR := Hh.out.kept hu (fun _ _ h => h)
  have e0 : wr.cell? ⟨b, 0, none⟩ = some (.slice la len len) := by rw [← hla.out]; exact hR.c0
  have e1 : wr.cell? ⟨b, 1, none⟩ = some (.int .i64 fr) := hR.c1
  have z0 : wr.frozen? ⟨b, 0, none⟩ = false := hR.blk.free 0
  have z1 : wr.frozen? ⟨b, 1, none⟩ = false := hR.blk.free 1
  by_cases hlt : k < len
  · obtain ⟨x, hx⟩ : ∃ x, (xs.map (Value.int .u64 ·))[k]? = some (Value.int .u64 x) := ⟨xs[k]'(by rw [hn.out]; exact hlt), by simp [hn.out, hlt]⟩
    obtain ⟨kk, hkk, hc⟩ := hR.atI hx
    subst hkk
    obtain rfl : la = some ⟨kk, 0, none⟩ := by have := hla.out; simpa [slv] using this.symm
    obtain ⟨hkb, hf, _⟩ := hR.arr kk rfl
    obtain ⟨j, hj⟩ : ∃ j, (fr + k) % len = j := ⟨_, rfl⟩
    have hjl : j < len := by rw [← hj]; exact Nat.mod_lt _ (by omega)
    rw [hj] at hc
    have Hj := Lib.hid hj
    clear hj
    have hcz : wr.frozen? ⟨w.heap.size, k, none⟩ = false := hcur.free k
    obtain ⟨y, hy⟩ : ∃ y, wr.cell? ⟨w.heap.size, k, none⟩ = some y := ⟨cur[k]'(by omega), by rw [hcur.cell]; simp⟩
    go_wp2
    refine wp_region_tail 12 (by kernel_rfl) (by kernel_rfl) ?_
    simp only [List.take_succ_cons, List.take_zero, List.drop_succ_cons, List.drop_zero]
    repeat (go_big_quiet_step ((go_at_call 119; refine Calls.quiet_of (slot_any b fr k j _ _ _ _ (by exact e0) (by exact e1) (by omega) (by omega) (by omega) (by omega) Hj))))
    refine wpQuiet_nil ?_
    rintro _ ⟨nq3, rfl⟩
    go_wp2
    refine Stage.out ?_
    go_wp2
    go_roundw
    case rel =>
     refine ⟨k + 1, cur.setIfInBounds k (Value.int .u64 x), by omega, by go_num, ?_, by simpa using hcs, fun i v hi hv => ?_, ?_⟩
     · exact hcur.set k _
     · by_cases hik : i = k
       · subst hik; rw [hx] at hv; rw [← hv]; exact Array.getElem?_setIfInBounds_self_of_lt (by omega)
       · rw [Array.getElem?_setIfInBounds_ne (Ne.symm hik)]; exact hall i v (by omega) hv
     · exact (hu.drewN _).setNew (Nat.le_refl _) _
    case measure => simp [intOf]; omega
  · have hkl : k = len := by omega
    have hbw : b ≠ w.heap.size := by have := Hh.out.lt; omega
    go_wp2
    go_end0
    refine ⟨rfl, w.heap.size, 0, L, ⟨?_, by have := hn.out; simp; omega, hLr, hl3, (fun h => by cases h), fun k' hk' => ?_⟩, by have := hn.out; simp; omega, fun k' hk' => Or.inr (Nat.le_of_eq (Option.some.inj hk')), ?_⟩
    · exact (hR.blk.set 0 _).set 1 _
    · obtain rfl : w.heap.size = k' := by simpa using hk'
      refine ⟨Ne.symm hbw, by omega, cur, ((hcur.setOther (a := ⟨b, 0, none⟩) (Ne.symm hbw) _).setOther (a := ⟨b, 1, none⟩) (Ne.symm hbw) _), hcs, fun i v hv => ?_⟩
      have hi : i < xs.length := by
       rcases Nat.lt_or_ge i xs.length with h' | h'
       · exact h'
       · rw [List.getElem?_eq_none (by simpa using h')] at hv; cases hv
      have hn1 : xs.length = len := hn.out
      rw [Nat.zero_add, Nat.mod_eq_of_lt (by omega)]
      exact hall i v (by omega) hv
    · exact ((hu.any _).setCell (fun _ => .inl rfl) _).setCell (fun _ => .inl rfl) _

/-- grow, in whatever ring with room. -/
theorem grow_any (w : World) (b : Nat) (g : Option Nat) (room fr len : Nat) (xs : List Int) (h : RingIn TR TE w b g room (xs.map (Value.int .u64 ·)) fr len) (hr : xs.length < room) :
 Calls Tryz.prog 120 #[.pointer (some ⟨b, 0, none⟩)] w fun e w' => e = .returned (.tuple #[]) ∧ RingGrown TR TE w w' b g room (xs.map (Value.int .u64 ·)) := by
 have hle : xs.length ≤ len := by simpa using h.le1
 rcases Nat.lt_or_ge xs.length len with hlt | hge
 · cases g with
   | none => have := (h.nil rfl).1; omega
   | some k =>
     refine (grow_none b xs.length _ len len w hlt h.c0 (by simpa using h.c2)).mono ?_
     rintro e w' ⟨rfl, n, rfl⟩
     exact ⟨rfl, k, fr, len, h.drewN n, by simpa using hlt, fun _ h => .inl h, (Upd.refl _ _).drewN n⟩
 · exact grow_full w b g room fr len xs h (by omega) (by omega)

/-- Put, where there is room. -/
theorem put_room (w : World) (b : Nat) (g : Option Nat) (room fr len : Nat) (xs : List Int) (x : Int) (h : RingIn TR TE w b g room (xs.map (Value.int .u64 ·)) fr len) (hr : xs.length < room) :
 Calls Tryz.prog 97 #[.pointer (some ⟨b, 0, none⟩), Value.int .u64 x] w fun e w' => e = .returned (.bool true) ∧ RingTurned TR TE w w' b g room ((xs ++ [x]).map (Value.int .u64 ·)) := by
 have h2 := h.c2
 have h3 := h.c3
 have hl3 := h.le3
 rw [List.length_map] at h2
 have he : ((room : Int) - xs.length == 0) = false := by simp; omega
 have Hg := fun n => Lib.hid (grow_any (w.drewN n) b g room fr len xs (h.drewN n) hr)
 clear h
 go_enter Tryz.func97, Tryz.ntmps97
 go_wp2_with (go_at_call 94; refine (room_any _ _ _ _ h2 h3 (by omega) (by omega) (by omega)).mono ?_; rintro e w' ⟨rfl, nq, rfl⟩)
 refine (Hg nq).out.mono ?_
 clear Hg h2 h3 he
 rintro e w1 ⟨rfl, k, fr, len, hR, hlt, hsn, hu⟩
 have h0 : w1.cell? ⟨b, 0, none⟩ = some (.slice (some ⟨k, 0, none⟩) len len) := hR.c0
 have h1 := hR.c1
 have h2 := hR.c2
 have hl2 := hR.le2
 rw [List.length_map] at h2 hlt
 have z2 := hR.blk.free 2
 obtain ⟨hkb, hf, cur, hcur, hcs, _⟩ := hR.arr k rfl
 obtain ⟨j, hj⟩ : ∃ j, (fr + xs.length) % len = j := ⟨_, rfl⟩
 have hjl : j < len := by rw [← hj]; exact Nat.mod_lt _ (by omega)
 have zj := hcur.free j
 obtain ⟨y, hy⟩ : ∃ y, w1.cell? ⟨k, j, none⟩ = some y := ⟨cur[j]'(by omega), by rw [hcur.cell]; simp⟩
 have HR := Lib.hid hR
 have Hj := Lib.hid hj
 have Hu := Lib.hid hu
 have Hs := Lib.hid hsn
 clear hR hj hcur hcs hu hsn
 obtain ⟨n, hn⟩ : ∃ n, xs.length = n := ⟨_, rfl⟩
 rw [hn] at h2 hlt hr Hj
 have Hn := Lib.hid hn
 clear hn
 go_wp2
 refine wp_region_tail 12 (by kernel_rfl) (by kernel_rfl) ?_
 simp only [List.take_succ_cons, List.take_zero, List.drop_succ_cons, List.drop_zero]
 repeat (go_big_quiet_step ((go_at_call 119; refine Calls.quiet_of (slot_any b fr n j _ _ _ _ (by exact h0) (by exact h1) (by omega) (by omega) (by omega) (by omega) Hj))))
 refine wpQuiet_nil ?_
 rintro _ ⟨nq2, rfl⟩
 go_wp2
 refine Stage.out ?_
 go_wp2
 go_ret
 have hR := HR.out.put (by simpa [Hn.out] using hlt) (Value.int .u64 x) (n + 1) (by simp [Hn.out])
 rw [List.length_map, Hn.out, Hj.out] at hR
 refine ⟨rfl, some k, ⟨fr, len, by rw [List.map_append]; exact hR.drewN nq2⟩, Hs.out, ?_⟩
 exact (((((Upd.refl (RingOf b g) w).drewN nq).trans Hu.out (fun _ _ h => h)).drewN nq2).setCell (a := ⟨k, j, none⟩) (fun hk => by
  rcases Hs.out k rfl with h | h
  · exact .inr h
  · exact absurd hk (Nat.not_lt.2 h)) _).setCell (a := ⟨b, 2, none⟩) (fun _ => .inl rfl) _

theorem take_some (w : World) (b : Nat) (g : Option Nat) (room fr len : Nat) (x : Int) (xs : List Int) (h : RingIn TR TE w b g room ((x :: xs).map (Value.int .u64 ·)) fr len) :
 Calls Tryz.prog 95 #[.pointer (some ⟨b, 0, none⟩)] w fun e w' => e = .returned (.tuple #[Value.int .u64 x, .bool true]) ∧ RingTurned TR TE w w' b g room (xs.map (Value.int .u64 ·)) := by
 have hh : Calls Tryz.prog 118 #[.pointer (some ⟨b, 0, none⟩)] w fun e w' => e = .returned (.tuple #[Value.int .u64 x, .bool true]) ∧ ∃ k, w' = w.drewN k := head_any w b g room fr len (x :: xs) h
 have Hh := Lib.hid hh
 clear hh
 cases g with
 | none => have := (h.nil rfl).1; have := h.le1; simp at this; omega
 | some k =>
 have h0 : w.cell? ⟨b, 0, none⟩ = some (.slice (some ⟨k, 0, none⟩) len len) := h.c0
 have h1 := h.c1
 have h2 := h.c2
 have hl1 := h.le1
 have hl2 := h.le2
 have hl3 := h.le3
 rw [List.length_map, List.length_cons] at h2 hl1
 obtain ⟨hkb, hf, cur, hcur, hcs, _⟩ := h.arr k rfl
 have H := Lib.hid h
 have z1 := h.blk.free 1
 have z2 := h.blk.free 2
 have zk := hcur.free fr
 obtain ⟨y, hy⟩ : ∃ y, w.cell? ⟨k, fr, none⟩ = some y := ⟨cur[fr]'(by omega), by rw [hcur.cell]; simp⟩
 have Hcur := Lib.hid hcur
 have Hcs := Lib.hid hcs
 obtain ⟨i0, hi, hz0, hz1, hz2⟩ := info_parts info
 clear h hcur hcs
 obtain ⟨n, hn⟩ : ∃ n, xs.length = n := ⟨_, rfl⟩
 rw [hn] at h2 hl1
 have Hn := Lib.hid hn
 clear hn
 go_enter Tryz.func95, Tryz.ntmps95
 go_wp2_with (go_at_call 118; refine Hh.out.mono ?_; rintro e w' ⟨rfl, nq, rfl⟩)
 refine wp_region_tail 14 (by kernel_rfl) (by kernel_rfl) ?_
 simp only [List.take_succ_cons, List.take_zero, List.drop_succ_cons, List.drop_zero]
 repeat (go_big_quiet_step (fail))
 refine wpQuiet_nil ?_
 rintro _ ⟨nq2, rfl⟩
 refine wpList_clear rfl _ 131 rfl TE i0 (Value.int .u64 0) Tryz.underlying131 hi hz0 rfl rfl _ k fr 1 _ cur (by rfl) Hcur.out (by rw [Hcs.out]; omega) (by omega) ?_
 intro w2 hc2 hu2
 have hu2' : Upd (fun i => i = k) w w2 := (((Upd.refl _ w).drewN nq).drewN nq2).trans hu2 (fun _ _ h => h)
 have hbl : b < w.heap.size := H.out.lt
 have e0 := (hu2'.cell 0 hbl (Ne.symm hkb)).trans h0
 have e1 := (hu2'.cell 1 hbl (Ne.symm hkb)).trans h1
 have e2 := (hu2'.cell 2 hbl (Ne.symm hkb)).trans h2
 have y1 := (hu2'.frozen 1 hbl (Ne.symm hkb)).trans z1
 have y2 := (hu2'.frozen 2 hbl (Ne.symm hkb)).trans z2
 have Hc2 := Lib.hid hc2
 have Hu2 := Lib.hid hu2'
 clear hc2 hu2 hu2' h0 h1 h2 z1 z2 zk hy hi hz0 hz1 hz2
 obtain ⟨j, hj⟩ : ∃ j, (fr + 1) % len = j := ⟨_, rfl⟩
 have Hj := Lib.hid hj
 clear hj
 go_wp2
 refine Stage.out ?_
 go_wp2_with (go_at_call 119; refine (slot_one b fr j _ _ _ _ (by exact e0) (by exact e1) (by omega) (by omega) (by omega) Hj).mono ?_; rintro e w' ⟨rfl, nq3, rfl⟩)
 go_ret2
 refine ⟨rfl, some k, ⟨j, len, ?_⟩, SameOrNew.refl _ _, ?_⟩
 · have hR := H.out.take Hu2.out Hcur.out Hc2.out (zeroed_size _ _ _ _ (by rw [Hcs.out]; omega)) (fun i hi => zeroed_ne _ _ _ _ _ (by omega) (by rw [Hcs.out]; omega))
   rw [List.length_map, Hn.out, Hj.out] at hR
   exact hR.drewN nq3
 · exact ((((Upd.refl (RingOf b (some k)) w).trans Hu2.out (fun i _ h => .inr (by rw [h]))).drewN nq3).setCell (a := ⟨b, 1, none⟩) (fun _ => .inl rfl) _).setCell (a := ⟨b, 2, none⟩) (fun _ => .inl rfl) _

end Go.Proofs.YtdddfmdcjjbegaaGreat.RingU
namespace Go.Proofs.YtdddfmdcjjbegaaGreat.RingU
open Go.RowKit Go.Proofs BigFrame

set_option maxHeartbeats 400000
theorem new_ok (w : World) (room : Nat) (h1 : 1 ≤ room) (h2 : room ≤ 65536) :
 Calls Tryz.prog 65 #[.int .i64 room] w fun e w' => e = .returned (.tuple #[.pointer (some ⟨w.heap.size, 0, none⟩), .int .i64 0]) ∧ RingAt TR TE w' w.heap.size none room [] ∧ Upd Nowhere w w' := by
 have d1 : decide (room < 1) = false := by simp; omega
 have d2 : decide (65536 < room) = false := by simp; omega
 have d3 : decide (room = 0) = false := by simp; omega
 go_enter Tryz.func65, Tryz.ntmps65
 go_wp2
 go_ret2
 exact ⟨rfl, ⟨0, 0, Blk.new _ _ _, by simp, by omega, h2, fun _ => ⟨rfl, rfl⟩, fun k hk => by cases hk⟩, (Upd.refl _ _).alloc _⟩

end Go.Proofs.YtdddfmdcjjbegaaGreat.RingU

