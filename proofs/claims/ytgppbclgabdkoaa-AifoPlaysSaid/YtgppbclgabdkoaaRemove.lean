/- aifo's remove: a number taken out of rising ones. -/
import Derived.Test.YtgppbclgabdkoaaInsert
namespace Go.Proofs.Ytgppbclgabdkoaa.Aifo
open Go.RowKit Go.Proofs BigFrame
theorem took_del {zs : List Int} {k m : Nat} {cur0 cur1 : Array Value} (hk : k ≤ m) (hz : zs.length = m + 1) (hl : cur0.size = m) (h3 : (cur0.toList.take 0 ++ (us (zs.take k) ++ cur0.toList.drop (0 + (us (zs.take k)).length))).toArray = cur1) : cur1.toList.take k = us (zs.take k) ∧ cur1.size = m := by
  have hlen : (us (zs.take k)).length = k := by rw [us_len, List.length_take]; omega
  subst h3
  rw [List.take_zero, List.nil_append, Nat.zero_add, hlen]
  refine ⟨?_, by simp [hlen]; omega⟩
  rw [List.take_append_of_le_length (by omega)]
  exact List.take_of_length_le (by omega)
theorem del_len {zs : List Int} {k m : Nat} (hn : zs.length = m + 1) (hk : k ≤ m) : (zs.take k ++ zs.drop (k + 1)).length = m := by simp; omega
theorem del_at {zs : List Int} {k j : Nat} {cur1 : Array Value} {R : List Value} {u : Value} (h3 : cur1.toList.take k = us (zs.take k)) (hj : (us (zs.take k ++ zs.drop (k + 1)))[j]? = some u) : (cur1.toList.take k ++ (us (zs.drop (k + 1)) ++ R)).toArray[j]? = some u := by
  have e : cur1.toList.take k ++ (us (zs.drop (k + 1)) ++ R) = us (zs.take k ++ zs.drop (k + 1)) ++ R := by rw [h3]; simp [us]
  rw [List.getElem?_toArray, e, List.getElem?_append_left (List.getElem?_eq_some_iff.1 hj).1]
  exact hj
theorem del_last {zs : List Int} {k j : Nat} {cur1 : Array Value} {u : Value} (hz : zs.length = k + 1) (h3 : cur1.toList.take k = us (zs.take k)) (hj : (us (zs.take k ++ zs.drop (k + 1)))[j]? = some u) : cur1[j]? = some u := by
  have hd : zs.drop (k + 1) = [] := List.drop_eq_nil_of_le (by omega)
  rw [hd, List.append_nil, ← h3, List.getElem?_take] at hj
  split at hj
  · simpa using hj
  · cases hj
set_option maxHeartbeats 4000000
set_option maxRecDepth 1000000
theorem remove_some (b off m c : Nat) (zs : List Int) (x : Int) (w : World) (hn : zs.length = m + 1) (hnc : m + 1 ≤ c) (hbig : m + 1 ≤ 4096) (hc : ∀ j u, (us zs)[j]? = some u → w.cell? ⟨b, off + j, none⟩ = some u) (hs : zs.Pairwise (· ≤ ·)) (hx : x ∈ zs) :
    Calls Try.prog 21 #[.slice (some ⟨b, off, none⟩) (m + 1) c, .int .u64 x] w fun e w' => ∃ v, e = .returned v ∧ Rising w' v (del zs x) ∧ NewRow w v ∧ Upd Nowhere w w' := by
  obtain ⟨i0, hi, hz0, hz1, hz2⟩ := info_parts infoU
  have hsz : (Try.prog.info? TU).map (·.size) = some 1 := by rw [hi]; exact congrArg some hz1
  have HS := Lib.hid (search b off (m + 1) c zs x w (by omega) (by omega) (fun j hj => hc j _ (us_get zs hj)) (by rw [List.take_of_length_le (by omega)]; exact hs))
  rw [List.take_of_length_le (by omega)] at HS
  have hct : zs.contains x = true := by simpa using hx
  rw [hct] at HS
  obtain ⟨k, hk⟩ : ∃ k, zs.countP (· < x) = k := ⟨_, rfl⟩
  have hkn : k ≤ m := by have := count_in hx; omega
  have hdel : del zs x = zs.take k ++ zs.drop (k + 1) := by unfold del; rw [hk]
  rw [hdel]
  rw [hk] at HS
  have HC := Lib.hid hc
  have HN := Lib.hid hn
  have hk2 : (k : Int) ≤ m := by omega
  have hk3 : (k : Int) ≤ (m : Int) + 1 := by omega
  have hk4 : (k : Int) + 1 ≤ (m : Int) + 1 := by omega
  have hnc2 : (m : Int) + 1 ≤ c := by omega
  have hkc : (k : Int) ≤ c := by omega
  have hkc2 : (k : Int) + 1 ≤ c := by omega
  have e1 : IntKind.i64.wrap (((m + 1 : Nat) : Int) - 1) = (m : Int) := by rw [IntKind.wrap_i64]; omega
  have e1' : IntKind.i64.wrap ((m : Int) + 1 - 1) = (m : Int) := by rw [IntKind.wrap_i64]; omega
  have e2 : IntKind.i64.wrap ((k : Int) + 1) = ((k + 1 : Nat) : Int) := by rw [IntKind.wrap_i64]; omega
  clear hc hs hk hdel hx hct
  go_enter Try.func21, Try.ntmps21
  go_wp2_with fail
  refine HS.out.mono ?_
  rintro e w' ⟨rfl, q, rfl⟩
  have hUq : Upd Nowhere w (w.drewN q) := (Upd.refl _ _).drewN q
  go_upto_region 4 with fail
  generalize w.drewN q = w0 at *
  go_upto_region 5 with (refine wpList_make_full _ rfl _ _ 25 rfl w0.heap.size TU i0 (.int .u64 0) 1 Try.underlying25 hi hz0 hz1 .i64 .i64 _ _ m rfl rfl (by simp) (by simp) (by rw [hz2]; omega) (by unfold maxLen; omega) (Nat.le_refl _) ?_; intro w1 hown hgr)
  have hu1 : Upd Nowhere w w1 := hUq.trans ((Upd.refl Nowhere w0).grown hgr (fun k _ h => by cases h)) (fun _ _ h => h)
  obtain ⟨cur0, hc0, _, _, hcs0, _⟩ := Blk.own hown
  have hsz0 : cur0.size = m := by omega
  have hgu := hUq.size
  go_wp2_with (refine wpList_copy_own rfl _ _ 25 25 rfl TU Try.underlying25 hsz w0.heap.size 0 m m ⟨b, off, none⟩ k c rfl rfl cur0 TU hc0 (us (zs.take k)) (by rw [us_len, List.length_take, HN.out]; show min k (m + 1) = min k m; omega) (fun j v hv => by rw [add_at]; exact cell_old hu1 (HC.out j v (us_take hv))) (by rw [us_len, List.length_take, HN.out]; omega) (us_one _) ?_; obtain ⟨hB2, hu2⟩ := setRow_eq w1 w0.heap.size (cur0.toList.take 0 ++ (us (zs.take k) ++ cur0.toList.drop (0 + (us (zs.take k)).length))).toArray cur0 TU hc0; generalize World.setRow w1 _ _ = w3 at *; simp only [Act.put, goInt, List.setIfInBounds_toArray, List.set_cons_succ, List.set_cons_zero])
  have hu3 : Upd Nowhere w w3 := hu1.trans hu2 (fun q hq h => by omega)
  obtain ⟨cur3, hc3⟩ : ∃ a, ((cur0.toList.take 0 ++ (us (zs.take k) ++ cur0.toList.drop (0 + (us (zs.take k)).length))).toArray) = a := ⟨_, rfl⟩
  rw [hc3] at hB2
  have hB3 := hB2
  obtain ⟨h3, hsz3⟩ := took_del hkn HN.out hsz0 hc3
  have H3 := Lib.hid h3
  clear hc3 hB2 hu2 hu1 hown hgr hc0 h3
  rcases Nat.lt_or_ge k m with hlt | hge
  · have q1 : ¬ m = k := by omega
    have q2 : ¬ c = k + 1 := by omega
    refine wp_region_tail 7 (by kernel_rfl) (by kernel_rfl) ?_
    simp only [List.take_succ_cons, List.take_zero, List.drop_succ_cons, List.drop_zero]
    repeat (go_big_quiet_step (fail))
    refine wpQuiet_nil ?_
    rintro _ ⟨nq, rfl⟩
    refine wpList_copy_own rfl _ _ 25 25 rfl TU Try.underlying25 hsz w0.heap.size k _ _ ⟨b, off + (k + 1), none⟩ _ _ rfl rfl cur3 TU hB3 (us (zs.drop (k + 1))) (by rw [us_len, List.length_drop, HN.out, Nat.add_sub_add_right]; exact (Nat.min_self _).symm) (fun j v hv => by rw [add_at, Nat.add_assoc]; exact cell_old (hu3.drewN nq) (HC.out (k + 1 + j) v (us_drop hv))) (by rw [us_len, List.length_drop, HN.out]; omega) (us_one _) ?_
    obtain ⟨hB4, hu4⟩ := setRow_eq (w3.drewN nq) w0.heap.size (cur3.toList.take k ++ (us (zs.drop (k + 1)) ++ cur3.toList.drop (k + (us (zs.drop (k + 1))).length))).toArray cur3 TU hB3
    have hu5 : Upd Nowhere w _ := (hu3.drewN nq).trans hu4 (fun q hq h => by omega)
    generalize World.setRow (w3.drewN nq) _ _ = w4 at *
    go_wp2
    refine Stage.out ?_
    go_wp2
    go_ret
    exact ⟨_, rfl, .inr ⟨w0.heap.size, m, by rw [del_len HN.out hkn]; rfl, by rw [del_len HN.out hkn]; exact Nat.le_refl _, hB4.lt, fun j u hj => hB4.cellAt (del_at H3.out hj)⟩, new_row hgu _ _, hu5⟩
  · obtain rfl : k = m := by omega
    by_cases hck : c = k + 1
    · subst hck
      refine wp_region_tail 7 (by kernel_rfl) (by kernel_rfl) ?_
      simp only [List.take_succ_cons, List.take_zero, List.drop_succ_cons, List.drop_zero]
      repeat (go_big_quiet_step (fail))
      refine wpQuiet_nil ?_
      rintro _ ⟨nq, rfl⟩
      refine wpList_copy_nothing rfl _ _ 25 25 rfl TU Try.underlying25 hsz _ _ _ _ _ _ rfl rfl (by simp) ?_
      go_wp2
      refine Stage.out ?_
      go_wp2
      go_ret
      exact ⟨_, rfl, .inr ⟨w0.heap.size, k, by rw [del_len HN.out hkn]; rfl, by rw [del_len HN.out hkn]; exact Nat.le_refl _, hB3.lt, fun j u hj => (hB3.drewN nq).cellAt (del_last HN.out H3.out hj)⟩, new_row hgu _ _, hu3.drewN nq⟩
    · refine wp_region_tail 7 (by kernel_rfl) (by kernel_rfl) ?_
      simp only [List.take_succ_cons, List.take_zero, List.drop_succ_cons, List.drop_zero]
      repeat (go_big_quiet_step (fail))
      refine wpQuiet_nil ?_
      rintro _ ⟨nq, rfl⟩
      refine wpList_copy_nothing rfl _ _ 25 25 rfl TU Try.underlying25 hsz _ _ _ _ _ _ rfl rfl (by simp) ?_
      go_wp2
      refine Stage.out ?_
      go_wp2
      go_ret
      exact ⟨_, rfl, .inr ⟨w0.heap.size, k, by rw [del_len HN.out hkn]; rfl, by rw [del_len HN.out hkn]; exact Nat.le_refl _, hB3.lt, fun j u hj => (hB3.drewN nq).cellAt (del_last HN.out H3.out hj)⟩, new_row hgu _ _, hu3.drewN nq⟩
end Go.Proofs.Ytgppbclgabdkoaa.Aifo
