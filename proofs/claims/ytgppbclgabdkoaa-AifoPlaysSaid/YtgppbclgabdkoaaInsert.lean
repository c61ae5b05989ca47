/- aifo's insert: a number in its place among rising ones. -/
import Derived.Test.YtgppbclgabdkoaaSearch
import Derived.Test.YtgppbclgabdkoaaLaws
import Derived.Test.YtgppbclgabdkoaaAifoPlain
import Derived.Laws.CopyOwn
import Derived.Laws.MakeOwn
import Derived.Deep.CutBlock
import Derived.Lib.Hide
namespace Go.Proofs.Ytgppbclgabdkoaa.Aifo
open Go.RowKit Go.Proofs BigFrame
abbrev TU : TypeId := 22
theorem infoU : (Try.prog.info? TU).map (fun i => (i.zero, i.size, i.bytes)) = some (some (.int .u64 0), 1, 8) := by kernel_rfl
theorem laid_cell {w : World} {g k : Nat} {t : TypeId} {cs : List Value} {cur0 : Array Value} (h : Blk w g (cur0.toList.take 0 ++ (cs ++ cur0.toList.drop (0 + cs.length))).toArray t) (hl : cs.length = k) (hk : k < cur0.size) : ∃ y, w.cell? ⟨g, k, none⟩ = some y := by
  rw [h.cell]
  refine ⟨_, Array.getElem?_eq_getElem (by simp; omega)⟩
theorem took_ins {zs : List Int} {x : Int} {k : Nat} {cur0 cur3 : Array Value} (hk : k ≤ zs.length) (hl : cur0.size = zs.length + 1) (h3 : ((cur0.toList.take 0 ++ (us (zs.take k) ++ cur0.toList.drop (0 + (us (zs.take k)).length))).toArray.setIfInBounds k (.int .u64 x)) = cur3) : cur3.toList.take (k + 1) = us (zs.take k) ++ [.int .u64 x] := by
  have hlen : (us (zs.take k)).length = k := by rw [us_len, List.length_take]; omega
  subst h3
  rw [List.take_zero, List.nil_append, Nat.zero_add, hlen, Array.toList_setIfInBounds]
  obtain ⟨d, D, hD⟩ : ∃ d D, cur0.toList.drop k = d :: D := by
    cases h : cur0.toList.drop k with
    | nil => have := congrArg List.length h; simp at this; omega
    | cons d D => exact ⟨d, D, rfl⟩
  rw [hD]
  generalize us (zs.take k) = L at *
  subst hlen
  simp [List.take_append]
  exact List.take_of_length_le (by omega)
theorem ins_len {zs : List Int} {x : Int} {k n : Nat} (hn : zs.length = n) (hk : k ≤ n) : n + 1 = (us (zs.take k ++ x :: zs.drop k)).length := by rw [us_len]; simp; omega
theorem ins_len2 {zs : List Int} {x : Int} {k n : Nat} (hn : zs.length = n) (hk : k ≤ n) : (zs.take k ++ x :: zs.drop k).length = n + 1 := by simp; omega
theorem new_row {w w0 : World} (h : w.heap.size ≤ w0.heap.size) (n c : Nat) : NewRow w (.slice (some ⟨w0.heap.size, 0, none⟩) n c) := fun k hk => by
  obtain rfl : w0.heap.size = k := by simpa [Value.ownBlock] using hk
  exact h
theorem ins_at {zs : List Int} {x : Int} {k j : Nat} {cur3 : Array Value} {R : List Value} {u : Value} (h3 : cur3.toList.take (k + 1) = us (zs.take k) ++ [.int .u64 x]) (hj : (us (zs.take k ++ x :: zs.drop k))[j]? = some u) : (cur3.toList.take (k + 1) ++ (us (zs.drop k) ++ R)).toArray[j]? = some u := by
  have e : cur3.toList.take (k + 1) ++ (us (zs.drop k) ++ R) = us (zs.take k ++ x :: zs.drop k) ++ R := by rw [h3]; simp [us]
  rw [List.getElem?_toArray, e, List.getElem?_append_left (List.getElem?_eq_some_iff.1 hj).1]
  exact hj
set_option maxHeartbeats 4000000
set_option maxRecDepth 1000000
theorem insert_some (b off n c : Nat) (zs : List Int) (x : Int) (w : World) (hn : zs.length = n) (hnc : n ≤ c) (hbig : n ≤ 4096) (hc : ∀ j u, (us zs)[j]? = some u → w.cell? ⟨b, off + j, none⟩ = some u) (hs : zs.Pairwise (· ≤ ·)) :
    Calls Try.prog 23 #[.slice (some ⟨b, off, none⟩) n c, .int .u64 x] w fun e w' => ∃ v, e = .returned v ∧ Rising w' v (ins zs x) ∧ NewRow w v ∧ Upd Nowhere w w' := by
  obtain ⟨i0, hi, hz0, hz1, hz2⟩ := info_parts infoU
  have hsz : (Try.prog.info? TU).map (·.size) = some 1 := by rw [hi]; exact congrArg some hz1
  have hget : ∀ j, j < zs.length → (us zs)[j]? = some (.int .u64 (zs.getD j 0)) := fun j hj => us_at (by rw [List.getD_eq_getElem?_getD]; simp [hj])
  have HS := Lib.hid (search b off n c zs x w (by omega) (by omega) (fun j hj => hc j _ (hget j hj)) (by rw [List.take_of_length_le (by omega)]; exact hs))
  rw [List.take_of_length_le (by omega)] at HS
  obtain ⟨k, hk⟩ : ∃ k, zs.countP (· < x) = k := ⟨_, rfl⟩
  have hkn : k ≤ n := by rw [← hk, ← hn]; exact List.countP_le_length
  have hins : ins zs x = zs.take k ++ x :: zs.drop k := by unfold ins; rw [hk]
  rw [hins]
  rw [hk] at HS
  generalize zs.contains x = isin at *
  have HC := Lib.hid hc
  have HN := Lib.hid hn
  have hk2 : (k : Int) ≤ n := by omega
  have hk3 : (k : Int) < (n : Int) + 1 := by omega
  have hk4 : (k : Int) + 1 ≤ (n : Int) + 1 := by omega
  have hnc2 : (n : Int) ≤ c := by omega
  have hkc : (k : Int) ≤ c := by omega
  have e1 : IntKind.i64.wrap ((n : Int) + 1) = ((n + 1 : Nat) : Int) := by rw [IntKind.wrap_i64]; omega
  have e2 : IntKind.i64.wrap ((k : Int) + 1) = ((k + 1 : Nat) : Int) := by rw [IntKind.wrap_i64]; omega
  clear hc hs hk hins hget
  go_enter Try.func23, Try.ntmps23
  go_wp2_with fail
  refine HS.out.mono ?_
  rintro e w' ⟨rfl, q, rfl⟩
  have hUq : Upd Nowhere w (w.drewN q) := (Upd.refl _ _).drewN q
  go_upto_region 2 with fail
  generalize w.drewN q = w0 at *
  go_upto_region 3 with (refine wpList_make_full _ rfl _ _ 25 rfl w0.heap.size TU i0 (.int .u64 0) 1 Try.underlying25 hi hz0 hz1 .i64 .i64 _ _ (n + 1) rfl rfl (by simp) (by simp) (by rw [hz2]; omega) (by unfold maxLen; omega) (Nat.le_refl _) ?_; intro w1 hown hgr)
  have hu1 : Upd Nowhere w w1 := hUq.trans ((Upd.refl Nowhere w0).grown hgr (fun k _ h => by cases h)) (fun _ _ h => h)
  obtain ⟨cur0, hc0, _, _, hcs0, _⟩ := Blk.own hown
  have hsz0 : cur0.size = n + 1 := by omega
  have hgu := hUq.size
  go_upto_region 4 with (refine wpList_copy_own rfl _ _ 25 25 rfl TU Try.underlying25 hsz w0.heap.size 0 (n + 1) (n + 1) ⟨b, off, none⟩ k c rfl rfl cur0 TU hc0 (us (zs.take k)) (by rw [us_len, List.length_take, HN.out]; show min k n = min k (n + 1); omega) (fun j v hv => by rw [add_at]; exact cell_old hu1 (HC.out j v (us_take hv))) (by rw [us_len, List.length_take, HN.out]; omega) (us_one _) ?_; obtain ⟨hB2, hu2⟩ := setRow_eq w1 w0.heap.size (cur0.toList.take 0 ++ (us (zs.take k) ++ cur0.toList.drop (0 + (us (zs.take k)).length))).toArray cur0 TU hc0; generalize World.setRow w1 _ _ = w2 at *)
  have z2 := hB2.free k
  obtain ⟨y, hy⟩ : ∃ y, w2.cell? ⟨w0.heap.size, k, none⟩ = some y := laid_cell hB2 (by rw [us_len, List.length_take, HN.out]; omega) (by omega)
  go_upto_region 5 with fail
  have hB3 := hB2.set k (.int .u64 x)
  have hu3 : Upd Nowhere w (w2.setCell ⟨w0.heap.size, k, none⟩ (.int .u64 x)) := (hu1.trans hu2 (fun q hq h => by omega)).setNew (a := ⟨w0.heap.size, k, none⟩) hgu _
  generalize w2.setCell ⟨w0.heap.size, k, none⟩ (.int .u64 x) = w3 at *
  obtain ⟨cur3, hc3⟩ : ∃ a, ((cur0.toList.take 0 ++ (us (zs.take k) ++ cur0.toList.drop (0 + (us (zs.take k)).length))).toArray.setIfInBounds k (.int .u64 x)) = a := ⟨_, rfl⟩
  rw [hc3] at hB3
  have hsz3 : cur3.size = n + 1 := by rw [← hc3]; simp [us_len, HN.out]; omega
  have H3 := Lib.hid hc3
  clear hc3 hB2 hu2 hu1 hown hgr hc0 hy z2
  rcases Nat.lt_or_ge k n with hlt | hge
  · have q1 : ¬ n = k := by omega
    have q2 : ¬ c = k := by omega
    refine wp_region_tail 7 (by kernel_rfl) (by kernel_rfl) ?_
    simp only [List.take_succ_cons, List.take_zero, List.drop_succ_cons, List.drop_zero]
    repeat (go_big_quiet_step (fail))
    refine wpQuiet_nil ?_
    rintro _ ⟨nq, rfl⟩
    refine wpList_copy_own rfl _ _ 25 25 rfl TU Try.underlying25 hsz w0.heap.size (k + 1) _ _ ⟨b, off + k, none⟩ _ _ rfl rfl cur3 TU hB3 (us (zs.drop k)) (by rw [us_len, List.length_drop, HN.out]; exact (Nat.min_self _).symm) (fun j v hv => by rw [add_at, Nat.add_assoc]; exact cell_old (hu3.drewN nq) (HC.out (k + j) v (us_drop hv))) (by rw [us_len, List.length_drop, HN.out]; omega) (us_one _) ?_
    obtain ⟨hB4, hu4⟩ := setRow_eq (w3.drewN nq) w0.heap.size (cur3.toList.take (k + 1) ++ (us (zs.drop k) ++ cur3.toList.drop (k + 1 + (us (zs.drop k)).length))).toArray cur3 TU hB3
    have hu5 : Upd Nowhere w _ := (hu3.drewN nq).trans hu4 (fun q hq h => by omega)
    generalize World.setRow (w3.drewN nq) _ _ = w4 at *
    go_wp2
    refine Stage.out ?_
    go_wp2
    go_ret
    have h3 := took_ins (by rw [HN.out]; exact hkn) (by rw [HN.out]; exact hsz0) H3.out
    exact ⟨_, rfl, .inr ⟨w0.heap.size, n + 1, by rw [ins_len2 HN.out hkn]; rfl, by rw [ins_len2 HN.out hkn]; exact Nat.le_refl _, hB4.lt, fun j u hj => hB4.cellAt (ins_at h3 hj)⟩, new_row hgu _ _, hu5⟩
  · obtain rfl : k = n := by omega
    by_cases hck : c = k
    · have hck2 := hck.symm
      subst hck2
      refine wp_region_tail 7 (by kernel_rfl) (by kernel_rfl) ?_
      simp only [List.take_succ_cons, List.take_zero, List.drop_succ_cons, List.drop_zero]
      repeat (go_big_quiet_step (fail))
      refine wpQuiet_nil ?_
      rintro _ ⟨nq, rfl⟩
      refine wpList_copy_nothing rfl _ _ 25 25 rfl TU Try.underlying25 hsz _ _ _ _ _ _ rfl rfl (by simp) ?_
      go_wp2
      refine Stage.out ?_
      go_wp2
      go_ret
      have h3 := took_ins (by rw [HN.out]; exact hkn) (by rw [HN.out]; exact hsz0) H3.out
      exact ⟨_, rfl, .inr ⟨w0.heap.size, k + 1, by rw [ins_len2 HN.out hkn]; rfl, by rw [ins_len2 HN.out hkn]; exact Nat.le_refl _, hB3.lt, fun j u hj => by
        have hd : zs.drop k = [] := List.drop_eq_nil_of_le (Nat.le_of_eq HN.out)
        have h4 := ins_at (R := cur3.toList.drop (k + 1)) h3 hj
        rw [hd] at h4
        exact hB3.cellAt (by simpa [us] using h4)⟩, new_row hgu _ _, hu3.drewN nq⟩
    · refine wp_region_tail 7 (by kernel_rfl) (by kernel_rfl) ?_
      simp only [List.take_succ_cons, List.take_zero, List.drop_succ_cons, List.drop_zero]
      repeat (go_big_quiet_step (fail))
      refine wpQuiet_nil ?_
      rintro _ ⟨nq, rfl⟩
      refine wpList_copy_nothing rfl _ _ 25 25 rfl TU Try.underlying25 hsz _ _ _ _ _ _ rfl rfl (by simp) ?_
      go_wp2
      refine Stage.out ?_
      go_wp2
      go_ret
      have h3 := took_ins (by rw [HN.out]; exact hkn) (by rw [HN.out]; exact hsz0) H3.out
      exact ⟨_, rfl, .inr ⟨w0.heap.size, k + 1, by rw [ins_len2 HN.out hkn]; rfl, by rw [ins_len2 HN.out hkn]; exact Nat.le_refl _, hB3.lt, fun j u hj => by
        have hd : zs.drop k = [] := List.drop_eq_nil_of_le (Nat.le_of_eq HN.out)
        have h4 := ins_at (R := cur3.toList.drop (k + 1)) h3 hj
        rw [hd] at h4
        exact hB3.cellAt (by simpa [us] using h4)⟩, new_row hgu _ _, hu3.drewN nq⟩
end Go.Proofs.Ytgppbclgabdkoaa.Aifo
