/- heappifo's heap of int: Peek, Pop. -/
import Derived.Test.YtbegljpnjcggnaaHeapI3
namespace Go.Proofs.Ytbegljpnjcggnaa.HeapI
open Go.RowKit Go.Proofs BigFrame Heap
set_option maxHeartbeats 4000000
set_option maxRecDepth 1000000
theorem peek_nil (w : World) :
    Calls Try.prog 15 #[.pointer none] w fun e w' => e = .returned (.tuple #[.int .u64 0, Value.int .i64 0, .bool false]) ∧ Upd Nowhere w w' := by
  have HL := fun u => Lib.hid (len_nil u)
  go_enter Try.func15, Try.ntmps15
  go_wp2_with fail
  refine ((HL _).out).mono ?_
  rintro e w' ⟨rfl, rfl⟩
  go_wp2_with fail
  go_ret3
  exact ⟨rfl, Upd.refl _ _⟩
theorem peek_empty {w : World} {b came room : Nat} {v : Value} (h : HeapIn (Value.int .i64) TH TE w b v came room ([] : List En)) :
    Calls Try.prog 15 #[.pointer (some ⟨b, 0, none⟩)] w fun e w' => e = .returned (.tuple #[.int .u64 0, Value.int .i64 0, .bool false]) ∧ Upd Nowhere w w' := by
  have HL := Lib.hid (len_some h)
  clear h
  go_enter Try.func15, Try.ntmps15
  go_wp2_with fail
  refine (HL.out).mono ?_
  rintro e w' ⟨rfl, rfl⟩
  go_wp2_with fail
  go_ret3
  exact ⟨rfl, Upd.refl _ _⟩
theorem peek_some {w : World} {b came room : Nat} {v : Value} {l : List En} {a : En} (h : HeapIn (Value.int .i64) TH TE w b v came room l) (ha : l[0]? = some a) :
    Calls Try.prog 15 #[.pointer (some ⟨b, 0, none⟩)] w fun e w' => e = .returned (.tuple #[.int .u64 a.1, Value.int .i64 a.2.2, .bool true]) ∧ Upd Nowhere w w' := by
  obtain ⟨n, hn⟩ : ∃ n, l.length = n := ⟨_, rfl⟩
  have hn0 : 0 < n := by have := get_lt ha; omega
  obtain ⟨g, c, rfl, _, _⟩ := Row.arr h.row (by omega)
  have HL := Lib.hid (len_some h)
  obtain ⟨c0, c1, c2, z0, z1, z2⟩ := cells3 h.blk
  obtain ⟨k0, k1, k2, f0, f1, f2⟩ := h.at ha
  rw [hn] at HL c0
  obtain ⟨a0, a1, a2⟩ := a
  have hd : ((n : Int) == 0) = false := by simp; omega
  clear h ha hn
  go_enter Try.func15, Try.ntmps15
  go_wp2_with fail
  refine (HL.out).mono ?_
  rintro e w' ⟨rfl, rfl⟩
  go_wp2_with fail
  go_quiet (fail)
  go_wp2_with fail
  go_ret3
  exact ⟨rfl, (Upd.refl _ _).drewN _⟩
theorem pop_nil (w : World) :
    Calls Try.prog 9 #[.pointer none] w fun e w' => e = .returned (.tuple #[.int .u64 0, Value.int .i64 0, .bool false]) ∧ Upd Nowhere w w' := by
  have HL := fun u => Lib.hid (peek_nil u)
  go_enter Try.func9, Try.ntmps9
  go_wp2_with fail
  refine ((HL _).out).mono ?_
  rintro e w' ⟨rfl, hu⟩
  go_wp2_with fail
  go_ret3
  exact ⟨rfl, hu⟩
theorem pop_empty {w : World} {b came room : Nat} {v : Value} (h : HeapIn (Value.int .i64) TH TE w b v came room ([] : List En)) :
    Calls Try.prog 9 #[.pointer (some ⟨b, 0, none⟩)] w fun e w' => e = .returned (.tuple #[.int .u64 0, Value.int .i64 0, .bool false]) ∧ Upd Nowhere w w' := by
  have HL := Lib.hid (peek_empty h)
  clear h
  go_enter Try.func9, Try.ntmps9
  go_wp2_with fail
  refine (HL.out).mono ?_
  rintro e w' ⟨rfl, hu⟩
  go_wp2_with fail
  go_ret3
  exact ⟨rfl, hu⟩
theorem take_last {l : List En} {m : Nat} (z y : En) (hl : l.length = m + 1) : ((l.set 0 z).set m y).take m = (l.set 0 z).dropLast := by
  rw [List.dropLast_eq_take, List.length_set, hl, Nat.add_sub_cancel]
  refine List.ext_getElem? fun i => ?_
  rcases Nat.lt_or_ge i m with h | h
  · rw [List.getElem?_take_of_lt h, List.getElem?_take_of_lt h, List.getElem?_set, if_neg (by omega)]
  · rw [List.getElem?_eq_none (by simp; omega), List.getElem?_eq_none (by simp; omega)]
theorem pop_some {w : World} {b came room : Nat} {v : Value} {l : List En} {a : En} (h : HeapIn (Value.int .i64) TH TE w b v came room l) (ha : l[0]? = some a) :
    Calls Try.prog 9 #[.pointer (some ⟨b, 0, none⟩)] w fun e w' => e = .returned (.tuple #[.int .u64 a.1, Value.int .i64 a.2.2, .bool true]) ∧
      ∃ v', HeapIn (Value.int .i64) TH TE w' b v' came room (popL l) ∧ OwnOrNew w v v' ∧ Upd (HeapOf b v) w w' := by
  have h0 := get_lt ha
  obtain ⟨m, hm⟩ : ∃ m, l.length = m + 1 := ⟨l.length - 1, by omega⟩
  obtain ⟨n, hn⟩ : ∃ n, m + 1 = n := ⟨_, rfl⟩
  obtain ⟨g, c, rfl, hc1, hc2⟩ := Row.arr h.row (by omega)
  obtain ⟨z, hz⟩ : ∃ z, l[m]? = some z := ⟨l[m]'(by omega), by simp⟩
  have HP := Lib.hid (peek_some h ha)
  have hr2 := h.r2
  have hle := h.le
  have HLU : Hid (lastUp l = (l.set 0 z).dropLast) := Lib.hid (lastUp_at (by rw [hm, Nat.add_sub_cancel]; exact hz))
  have HTL := Lib.hid (take_last z ((0, 0, 0) : En) hm)
  rw [hm, hn] at h hc1 hle ⊢
  have hnc : n ≤ c := hc1
  have hn4 : n ≤ 4096 := by omega
  have hm4 : m < n := by omega
  have hn0 : 0 < n := by omega
  have e1 : (n : Int) - 1 = (m : Int) := by omega
  obtain ⟨a0, a1, a2⟩ := a
  obtain ⟨z0', z1', z2'⟩ := z
  have H0 := Lib.hid h
  have HM := Lib.hid hm
  have HN := Lib.hid hn
  have HA := Lib.hid ha
  have HZ := Lib.hid hz
  have HC1 := Lib.hid hc1
  clear h ha hz hm hn hc1 hc2 hle
  go_enter Try.func9, Try.ntmps9
  go_wp2_with fail
  refine (HP.out).mono ?_
  rintro e w1 ⟨rfl, hu1⟩
  have H1 := Lib.hid (H0.out.old hu1)
  have HU1 := Lib.hid (hu1.any (HeapOf b (.slice (some ⟨g, 0, none⟩) n c)))
  clear hu1 HP
  obtain ⟨c0, c1, c2, z0, z1, z2⟩ := cells3 H1.out.blk
  obtain ⟨k0, k1, k2, f0, f1, f2⟩ := H1.out.at HA.out
  obtain ⟨j0, j1, j2, g0, g1, g2⟩ := H1.out.at HZ.out
  go_wp2_with fail
  refine wp_region_tail 11 (by kernel_rfl) (by kernel_rfl) ?_
  simp only [List.take_succ_cons, List.take_zero, List.drop_succ_cons, List.drop_zero]
  repeat (go_big_quiet_step (fail))
  refine wpQuiet_nil ?_
  rintro _ ⟨nq, rfl⟩
  go_wp2_with fail
  refine Stage.out ?_
  have hgb : b ≠ g := fun e => H0.out.off (by rw [e]; rfl)
  have hgb1 : ¬ b = g := hgb
  have hgb2 : ¬ g = b := fun e => hgb e.symm
  have H2 : Hid (HeapIn (Value.int .i64) TH TE ((((w1.drewN nq).setCell ⟨g, 0, none⟩ (.int .u64 z0')).setCell ⟨g, 1, none⟩ (.int .u64 z1')).setCell ⟨g, 2, none⟩ (Value.int .i64 z2')) b (.slice (some ⟨g, 0, none⟩) n c) came room (l.set 0 (z0', z1', z2'))) := Lib.hid ((H1.out.old ((Upd.refl _ _).drewN nq)).setN 0 (z0', z1', z2'))
  have HU2 : Hid (Upd (HeapOf b (.slice (some ⟨g, 0, none⟩) n c)) w ((((w1.drewN nq).setCell ⟨g, 0, none⟩ (.int .u64 z0')).setCell ⟨g, 1, none⟩ (.int .u64 z1')).setCell ⟨g, 2, none⟩ (Value.int .i64 z2'))) := Lib.hid (Upd.entry (HU1.out.drewN nq) (fun _ => .inr rfl) 0 _ _ _)
  clear c0 c1 c2 z0 z1 z2 k0 k1 k2 f0 f1 f2 j0 j1 j2 g0 g1 g2 H1 HU1 hgb
  generalize (((w1.drewN nq).setCell ⟨g, 0, none⟩ (.int .u64 z0')).setCell ⟨g, 1, none⟩ (.int .u64 z1')).setCell ⟨g, 2, none⟩ (Value.int .i64 z2') = w2 at *
  have hz2 : (l.set 0 (z0', z1', z2'))[m]? = some (z0', z1', z2') := by
    rw [List.getElem?_set]
    by_cases e : 0 = m
    · rw [if_pos e]; simp [show 0 < l.length by omega]
    · rw [if_neg e]; exact HZ.out
  obtain ⟨c0, c1, c2, z0, z1, z2⟩ := cells3 H2.out.blk
  obtain ⟨j0, j1, j2, g0, g1, g2⟩ := H2.out.at hz2
  have hmc : m ≤ c := by omega
  have H4 := Lib.hid ((H2.out.setN m ((0, 0, 0) : En)).cut m (by omega))
  have HU4 := Lib.hid ((Upd.entry (w' := w2) HU2.out (fun _ => .inr rfl) m (.int .u64 ((0 : Nat) : Int)) (.int .u64 ((0 : Nat) : Int)) (Value.int .i64 0)).setCell (a := ⟨b, 0, none⟩) (fun _ => .inl rfl) (.slice (some ⟨g, 0, none⟩) m c))
  have HD := Lib.hid (down_any (k := 0) H4.out (Nat.zero_le _))
  clear hz2 H4
  go_wp2_with fail
  refine HD.out.mono ?_
  rintro e w5 ⟨rfl, h5, u5⟩
  have HQ : Hid (HeapIn (Value.int .i64) TH TE w5 b (.slice (some ⟨g, 0, none⟩) m c) came room (popL l)) := Lib.hid (by unfold popL; rw [HLU.out, ← HTL.out]; exact h5)
  have HW := Lib.hid (HU4.out.trans u5 (fun k _ e => .inr (by rw [e]; rfl)))
  clear h5 u5 HD HU4 c0 c1 c2 z0 z1 z2 j0 j1 j2 g0 g1 g2
  go_wp2_with fail
  go_ret3
  exact ⟨rfl, _, HQ.out, fun k hk => .inl hk, HW.out⟩
end Go.Proofs.Ytbegljpnjcggnaa.HeapI
