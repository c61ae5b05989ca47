/- Search, Insert, Remove, Insert2, one behind the other. -/
import Derived.Test.YtdddfmdcjjbegaaGreatProg
import Derived.Test.YtdddfmdcjjbegaaGreatMeA
import Derived.Deep.LoopGhost
import Derived.Deep.Draws
import Derived.Lib.Walk
import Derived.Lib.SlicesSearch
import Derived.Test.YtdddfmdcjjbegaaGreatMeB
import Derived.Laws.CopyOwn
import Derived.Laws.MakeOwn
import Derived.Deep.CutBlock
import Derived.Lib.Hide
namespace Go.Proofs.YtdddfmdcjjbegaaGreat.Aifo
open Go.RowKit Go.Proofs BigFrame Go.Lib
set_option maxHeartbeats 4000000
set_option maxRecDepth 1000000
theorem cmp_nan (x : Int) (w : World) : Calls Tryz.prog 138 #[.int .u64 x] w fun e w' => e = .returned (.bool false) ∧ w' = w := by
 go_enter Tryz.func138, Tryz.ntmps138
 go_wp2
 go_ret
 exact ⟨by simp, rfl⟩
theorem sl_nan (x : Int) (w : World) : Calls Tryz.prog 133 #[.int .u64 x] w fun e w' => e = .returned (.bool false) ∧ w' = w := by
 go_enter Tryz.func133, Tryz.ntmps133
 go_wp2
 go_ret
 exact ⟨by simp, rfl⟩
theorem less_u (x y : Int) (w : World) : Calls Tryz.prog 132 #[.int .u64 x, .int .u64 y] w fun e w' => e = .returned (.bool (decide (x < y))) ∧ w' = w := by
 go_enter Tryz.func132, Tryz.ntmps132
 go_wp2_with (go_at_call 138; refine (cmp_nan _ _).mono ?_; rintro e w' ⟨rfl, rfl⟩)
 go_ret
 exact ⟨rfl, rfl⟩
theorem search (b off n c : Nat) (zs : List Int) (x : Int) (w : World) (hz : n ≤ zs.length) (hbig : n < 4611686018427387904) (hc : ∀ j, j < zs.length → w.cell? ⟨b, off + j, none⟩ = some (.int .u64 (zs.getD j 0))) (hs : (zs.take n).Pairwise (· ≤ ·)) :
 Calls Tryz.prog 117 #[.slice (some ⟨b, off, none⟩) n c, .int .u64 x] w fun e w' => e = .returned (.tuple #[.int .i64 ((zs.take n).countP (· < x) : Nat), .bool ((zs.take n).contains x)]) ∧ ∃ q, w' = w.drewN q := by
 have S : Aside (∀ a b, a ≤ b → b < n → zs.getD a 0 ≤ zs.getD b 0) := Lib.sorted_at zs n hz hs
 clear hs
 go_enter Tryz.func117, Tryz.ntmps117
 go_wp2
 go_loopg [7, 8] n (fun g s7 s8 wr => ∃ lo hi q : Nat, s7 = .int .i64 lo ∧ s8 = .int .i64 hi ∧ lo ≤ hi ∧ hi ≤ n ∧ hi - lo ≤ g ∧ wr = w.drewN q ∧ (∀ t, t < lo → zs.getD t 0 < x) ∧ (∀ t, hi ≤ t → t < n → x ≤ zs.getD t 0))
 case atStart => exact ⟨0, n, 0, rfl, rfl, Nat.zero_le _, Nat.le_refl _, by omega, rfl, fun t ht => absurd ht (Nat.not_lt_zero _), fun t h1 h2 => by omega⟩
 case round =>
  obtain ⟨lo, hi, q, rfl, rfl, hlh, hin, hg, rfl, h1, h2⟩ := hrel
  have I : Aside ((∀ t, t < lo → zs.getD t 0 < x) ∧ (∀ t, hi ≤ t → t < n → x ≤ zs.getD t 0)) := ⟨h1, h2⟩
  clear h1 h2
  by_cases hlt : lo < hi
  · have cm : w.cell? ⟨b, off + (lo + hi) / 2, none⟩ = some (.int .u64 (zs.getD ((lo + hi) / 2) 0)) := hc _ (by omega)
    clear hc
    generalize hy : zs.getD ((lo + hi) / 2) 0 = y at cm
    have Y : Aside (zs.getD ((lo + hi) / 2) 0 = y) := hy
    clear hy
    by_cases hyx : y < x
    · go_wp2_with (first | (go_at_call 132; refine (less_u _ _ _).mono ?_; rintro e w' ⟨rfl, rfl⟩) | (go_at_call 133; refine (sl_nan _ _).mono ?_; rintro e w' ⟨rfl, rfl⟩))
      go_roundg (hi - ((lo + hi) / 2 + 1))
      case measure => omega
      case rel =>
       refine ⟨(lo + hi) / 2 + 1, hi, _, by rw [show ((lo : Int) + (hi : Int)) / 2 + 1 = (((lo + hi) / 2 + 1 : Nat) : Int) by omega], rfl, by omega, hin, Nat.le_refl _, rfl, fun t ht => ?_, I.out.2⟩
       have := S.out t ((lo + hi) / 2) (by omega) (by omega)
       rw [Y.out] at this
       omega
    · go_wp2_with (first | (go_at_call 132; refine (less_u _ _ _).mono ?_; rintro e w' ⟨rfl, rfl⟩) | (go_at_call 133; refine (sl_nan _ _).mono ?_; rintro e w' ⟨rfl, rfl⟩))
      go_roundg ((lo + hi) / 2 - lo)
      case measure => omega
      case rel =>
       refine ⟨lo, (lo + hi) / 2, _, rfl, by rw [show ((lo : Int) + (hi : Int)) / 2 = (((lo + hi) / 2 : Nat) : Int) by omega], by omega, by omega, Nat.le_refl _, rfl, I.out.1, fun t ht htn => ?_⟩
       have := S.out ((lo + hi) / 2) t ht htn
       rw [Y.out] at this
       omega
  · have : hi = lo := by omega
    subst this
    obtain ⟨e1, e2⟩ := Lib.search_end zs n hi x hz hin I.out.1 I.out.2 S.out
    have E : Aside ((zs.take n).countP (· < x) = hi ∧ (zs.take n).contains x = decide (hi < n ∧ zs.getD hi 0 = x)) := ⟨e1, e2⟩
    clear e1 e2
    by_cases hn : hi < n
    · have cl : w.cell? ⟨b, off + hi, none⟩ = some (.int .u64 (zs.getD hi 0)) := hc _ (by omega)
      clear hc
      generalize hy : zs.getD hi 0 = y at cl
      have Y : Aside (zs.getD hi 0 = y) := hy
      clear hy
      by_cases hyx : y = x
      · go_wp2_with (first | (go_at_call 132; refine (less_u _ _ _).mono ?_; rintro e w' ⟨rfl, rfl⟩) | (go_at_call 133; refine (sl_nan _ _).mono ?_; rintro e w' ⟨rfl, rfl⟩))
        go_ret2
        refine ⟨?_, _, rfl⟩
        rw [E.out.1, E.out.2, Y.out, decide_eq_true (show hi < n ∧ y = x from ⟨hn, hyx⟩)]
        first | rfl | simp [*]
      · go_wp2_with (first | (go_at_call 132; refine (less_u _ _ _).mono ?_; rintro e w' ⟨rfl, rfl⟩) | (go_at_call 133; refine (sl_nan _ _).mono ?_; rintro e w' ⟨rfl, rfl⟩))
        go_ret2
        refine ⟨?_, _, rfl⟩
        rw [E.out.1, E.out.2, Y.out, decide_eq_false (show ¬ (hi < n ∧ y = x) from fun h => hyx h.2)]
        first | rfl | simp [*]
    · clear hc
      go_wp2_with (first | (go_at_call 132; refine (less_u _ _ _).mono ?_; rintro e w' ⟨rfl, rfl⟩) | (go_at_call 133; refine (sl_nan _ _).mono ?_; rintro e w' ⟨rfl, rfl⟩))
      go_ret2
      refine ⟨?_, _, rfl⟩
      rw [E.out.1, E.out.2, decide_eq_false (show ¬ (hi < n ∧ zs.getD hi 0 = x) from fun h => hn h.1)]
      first | rfl | simp [*]
end Go.Proofs.YtdddfmdcjjbegaaGreat.Aifo
namespace Go.Proofs.YtdddfmdcjjbegaaGreat.Aifo
open Go.RowKit Go.Proofs BigFrame
abbrev TU : TypeId := 24
theorem infoU : (Tryz.prog.info? TU).map (fun i => (i.zero, i.size, i.bytes)) = some (some (.int .u64 0), 1, 8) := by kernel_rfl
theorem laid_cell {w : World} {g k : Nat} {t : TypeId} {cs : List Value} {cur0 : Array Value} (h : Blk w g (cur0.toList.take 0 ++ (cs ++ cur0.toList.drop (0 + cs.length))).toArray t) (hl : cs.length = k) (hk : k < cur0.size) : ∃ y, w.cell? ⟨g, k, none⟩ = some y := by
 rw [h.cell]
 refine ⟨_, Array.getElem?_eq_getElem (by simp; omega)⟩
theorem took_ins {zs : List Int} {x : Int} {k : Nat} {cur0 cur3 : Array Value} (hk : k ≤ zs.length) (hl : cur0.size = zs.length + 1) (h3 : ((cur0.toList.take 0 ++ (us (zs.take k) ++ cur0.toList.drop (0 + (us (zs.take k)).length))).toArray.setIfInBounds k (.int .u64 x)) = cur3) : cur3.toList.take (k + 1) = us (zs.take k) ++ [.int .u64 x] := by
 have hlen : (us (zs.take k)).length = k := by rw [us_len, List.length_take]; omega
 subst h3
 rw [List.take_zero, List.nil_append, Nat.zero_add, hlen, Array.toList_setIfInBounds]
 obtain ⟨d, D, hD⟩ : ∃ d D, cur0.toList.drop k = d :: D := by
  cases h : cur0.toList.drop k with
  | nil => have := congrArg List.length h; simp at this; omega
  | cons d D => exact ⟨d, D, rfl⟩
 rw [hD]
 generalize us (zs.take k) = L at *
 subst hlen
 simp [List.take_append]
 exact List.take_of_length_le (by omega)
theorem ins_len2 {zs : List Int} {x : Int} {k n : Nat} (hn : zs.length = n) (hk : k ≤ n) : (zs.take k ++ x :: zs.drop k).length = n + 1 := by simp; omega
theorem new_row {w w0 : World} (h : w.heap.size ≤ w0.heap.size) (n c : Nat) : NewRow w (.slice (some ⟨w0.heap.size, 0, none⟩) n c) := fun k hk => by
 obtain rfl : w0.heap.size = k := by simpa [Value.ownBlock] using hk
 exact h
theorem ins_at {zs : List Int} {x : Int} {k j : Nat} {cur3 : Array Value} {R : List Value} {u : Value} (h3 : cur3.toList.take (k + 1) = us (zs.take k) ++ [.int .u64 x]) (hj : (us (zs.take k ++ x :: zs.drop k))[j]? = some u) : (cur3.toList.take (k + 1) ++ (us (zs.drop k) ++ R)).toArray[j]? = some u := by
 have e : cur3.toList.take (k + 1) ++ (us (zs.drop k) ++ R) = us (zs.take k ++ x :: zs.drop k) ++ R := by rw [h3]; simp [us]
 rw [List.getElem?_toArray, e, List.getElem?_append_left (List.getElem?_eq_some_iff.1 hj).1]
 exact hj
set_option maxHeartbeats 4000000
set_option maxRecDepth 1000000
theorem insert_some (b off n c : Nat) (zs : List Int) (x : Int) (w : World) (hn : zs.length = n) (hnc : n ≤ c) (hbig : n ≤ 4096) (hc : ∀ j u, (us zs)[j]? = some u → w.cell? ⟨b, off + j, none⟩ = some u) (hs : zs.Pairwise (· ≤ ·)) :
 Calls Tryz.prog 98 #[.slice (some ⟨b, off, none⟩) n c, .int .u64 x] w fun e w' => ∃ v, e = .returned v ∧ Rising w' v (ins zs x) ∧ NewRow w v ∧ Upd Nowhere w w' := by
 obtain ⟨i0, hi, hz0, hz1, hz2⟩ := info_parts infoU
 have hsz : (Tryz.prog.info? TU).map (·.size) = some 1 := by rw [hi]; exact congrArg some hz1
 have hget : ∀ j, j < zs.length → (us zs)[j]? = some (.int .u64 (zs.getD j 0)) := fun j hj => us_at (by rw [List.getD_eq_getElem?_getD]; simp [hj])
 have HS := Lib.hid (search b off n c zs x w (by omega) (by omega) (fun j hj => hc j _ (hget j hj)) (by rw [List.take_of_length_le (by omega)]; exact hs))
 rw [List.take_of_length_le (by omega)] at HS
 obtain ⟨k, hk⟩ : ∃ k, zs.countP (· < x) = k := ⟨_, rfl⟩
 have hkn : k ≤ n := by rw [← hk, ← hn]; exact List.countP_le_length
 have hins : ins zs x = zs.take k ++ x :: zs.drop k := by unfold ins; rw [hk]
 rw [hins]
 rw [hk] at HS
 generalize zs.contains x = isin at *
 have HC := Lib.hid hc
 have HN := Lib.hid hn
 have hk2 : (k : Int) ≤ n := by omega
 have hk3 : (k : Int) < (n : Int) + 1 := by omega
 have hk4 : (k : Int) + 1 ≤ (n : Int) + 1 := by omega
 have hnc2 : (n : Int) ≤ c := by omega
 have hkc : (k : Int) ≤ c := by omega
 have e1 : IntKind.i64.wrap ((n : Int) + 1) = ((n + 1 : Nat) : Int) := by rw [IntKind.wrap_i64]; omega
 have e2 : IntKind.i64.wrap ((k : Int) + 1) = ((k + 1 : Nat) : Int) := by rw [IntKind.wrap_i64]; omega
 clear hc hs hk hins hget
 go_enter Tryz.func98, Tryz.ntmps98
 go_wp2_with fail
 refine HS.out.mono ?_
 rintro e w' ⟨rfl, q, rfl⟩
 have hUq : Upd Nowhere w (w.drewN q) := (Upd.refl _ _).drewN q
 go_upto_region 2 with fail
 generalize w.drewN q = w0 at *
 go_upto_region 3 with (refine wpList_make_full _ rfl _ _ 131 rfl w0.heap.size TU i0 (.int .u64 0) 1 Tryz.underlying131 hi hz0 hz1 .i64 .i64 _ _ (n + 1) rfl rfl (by simp) (by simp) (by rw [hz2]; omega) (by unfold maxLen; omega) (Nat.le_refl _) ?_; intro w1 hown hgr)
 have hu1 : Upd Nowhere w w1 := hUq.trans ((Upd.refl Nowhere w0).grown hgr (fun k _ h => by cases h)) (fun _ _ h => h)
 obtain ⟨cur0, hc0, _, _, hcs0, _⟩ := Blk.own hown
 have hsz0 : cur0.size = n + 1 := by omega
 have hgu := hUq.size
 go_upto_region 4 with (refine wpList_copy_own rfl _ _ 131 131 rfl TU Tryz.underlying131 hsz w0.heap.size 0 (n + 1) (n + 1) ⟨b, off, none⟩ k c rfl rfl cur0 TU hc0 (us (zs.take k)) (by rw [us_len, List.length_take, HN.out]; show min k n = min k (n + 1); omega) (fun j v hv => by rw [add_at]; exact cell_old hu1 (HC.out j v (us_take hv))) (by rw [us_len, List.length_take, HN.out]; omega) (us_one _) ?_; obtain ⟨hB2, hu2⟩ := setRow_eq w1 w0.heap.size (cur0.toList.take 0 ++ (us (zs.take k) ++ cur0.toList.drop (0 + (us (zs.take k)).length))).toArray cur0 TU hc0; generalize World.setRow w1 _ _ = w2 at *)
 have z2 := hB2.free k
 obtain ⟨y, hy⟩ : ∃ y, w2.cell? ⟨w0.heap.size, k, none⟩ = some y := laid_cell hB2 (by rw [us_len, List.length_take, HN.out]; omega) (by omega)
 go_upto_region 5 with fail
 have hB3 := hB2.set k (.int .u64 x)
 have hu3 : Upd Nowhere w (w2.setCell ⟨w0.heap.size, k, none⟩ (.int .u64 x)) := (hu1.trans hu2 (fun q hq h => by omega)).setNew (a := ⟨w0.heap.size, k, none⟩) hgu _
 generalize w2.setCell ⟨w0.heap.size, k, none⟩ (.int .u64 x) = w3 at *
 obtain ⟨cur3, hc3⟩ : ∃ a, ((cur0.toList.take 0 ++ (us (zs.take k) ++ cur0.toList.drop (0 + (us (zs.take k)).length))).toArray.setIfInBounds k (.int .u64 x)) = a := ⟨_, rfl⟩
 rw [hc3] at hB3
 have hsz3 : cur3.size = n + 1 := by rw [← hc3]; simp [us_len, HN.out]; omega
 have H3 := Lib.hid hc3
 clear hc3 hB2 hu2 hu1 hown hgr hc0 hy z2
 rcases Nat.lt_or_ge k n with hlt | hge
 · have q1 : ¬ n = k := by omega
   have q2 : ¬ c = k := by omega
   refine wp_region_tail 7 (by kernel_rfl) (by kernel_rfl) ?_
   simp only [List.take_succ_cons, List.take_zero, List.drop_succ_cons, List.drop_zero]
   repeat (go_big_quiet_step (fail))
   refine wpQuiet_nil ?_
   rintro _ ⟨nq, rfl⟩
   refine wpList_copy_own rfl _ _ 131 131 rfl TU Tryz.underlying131 hsz w0.heap.size (k + 1) _ _ ⟨b, off + k, none⟩ _ _ rfl rfl cur3 TU hB3 (us (zs.drop k)) (by rw [us_len, List.length_drop, HN.out]; exact (Nat.min_self _).symm) (fun j v hv => by rw [add_at, Nat.add_assoc]; exact cell_old (hu3.drewN nq) (HC.out (k + j) v (us_drop hv))) (by rw [us_len, List.length_drop, HN.out]; omega) (us_one _) ?_
   obtain ⟨hB4, hu4⟩ := setRow_eq (w3.drewN nq) w0.heap.size (cur3.toList.take (k + 1) ++ (us (zs.drop k) ++ cur3.toList.drop (k + 1 + (us (zs.drop k)).length))).toArray cur3 TU hB3
   have hu5 : Upd Nowhere w _ := (hu3.drewN nq).trans hu4 (fun q hq h => by omega)
   generalize World.setRow (w3.drewN nq) _ _ = w4 at *
   go_wp2
   refine Stage.out ?_
   go_wp2
   go_ret
   have h3 := took_ins (by rw [HN.out]; exact hkn) (by rw [HN.out]; exact hsz0) H3.out
   exact ⟨_, rfl, .inr ⟨w0.heap.size, n + 1, by rw [ins_len2 HN.out hkn]; rfl, by rw [ins_len2 HN.out hkn]; exact Nat.le_refl _, hB4.lt, fun j u hj => hB4.cellAt (ins_at h3 hj)⟩, new_row hgu _ _, hu5⟩
 · obtain rfl : k = n := by omega
   by_cases hck : c = k
   · have hck2 := hck.symm
     subst hck2
     refine wp_region_tail 7 (by kernel_rfl) (by kernel_rfl) ?_
     simp only [List.take_succ_cons, List.take_zero, List.drop_succ_cons, List.drop_zero]
     repeat (go_big_quiet_step (fail))
     refine wpQuiet_nil ?_
     rintro _ ⟨nq, rfl⟩
     refine wpList_copy_nothing rfl _ _ 131 131 rfl TU Tryz.underlying131 hsz _ _ _ _ _ _ rfl rfl (by simp) ?_
     go_wp2
     refine Stage.out ?_
     go_wp2
     go_ret
     have h3 := took_ins (by rw [HN.out]; exact hkn) (by rw [HN.out]; exact hsz0) H3.out
     exact ⟨_, rfl, .inr ⟨w0.heap.size, k + 1, by rw [ins_len2 HN.out hkn]; rfl, by rw [ins_len2 HN.out hkn]; exact Nat.le_refl _, hB3.lt, fun j u hj => by
      have hd : zs.drop k = [] := List.drop_eq_nil_of_le (Nat.le_of_eq HN.out)
      have h4 := ins_at (R := cur3.toList.drop (k + 1)) h3 hj
      rw [hd] at h4
      exact hB3.cellAt (by simpa [us] using h4)⟩, new_row hgu _ _, hu3.drewN nq⟩
   · refine wp_region_tail 7 (by kernel_rfl) (by kernel_rfl) ?_
     simp only [List.take_succ_cons, List.take_zero, List.drop_succ_cons, List.drop_zero]
     repeat (go_big_quiet_step (fail))
     refine wpQuiet_nil ?_
     rintro _ ⟨nq, rfl⟩
     refine wpList_copy_nothing rfl _ _ 131 131 rfl TU Tryz.underlying131 hsz _ _ _ _ _ _ rfl rfl (by simp) ?_
     go_wp2
     refine Stage.out ?_
     go_wp2
     go_ret
     have h3 := took_ins (by rw [HN.out]; exact hkn) (by rw [HN.out]; exact hsz0) H3.out
     exact ⟨_, rfl, .inr ⟨w0.heap.size, k + 1, by rw [ins_len2 HN.out hkn]; rfl, by rw [ins_len2 HN.out hkn]; exact Nat.le_refl _, hB3.lt, fun j u hj => by
      have hd : zs.drop k = [] := List.drop_eq_nil_of_le (Nat.le_of_eq HN.out)
      have h4 := ins_at (R := cur3.toList.drop (k + 1)) h3 hj
      rw [hd] at h4
      exact hB3.cellAt (by simpa [us] using h4)⟩, new_row hgu _ _, hu3.drewN nq⟩
end Go.Proofs.YtdddfmdcjjbegaaGreat.Aifo
namespace Go.Proofs.YtdddfmdcjjbegaaGreat.Aifo
open Go.RowKit Go.Proofs BigFrame
theorem took_del {zs : List Int} {k m : Nat} {cur0 cur1 : Array Value} (hk : k ≤ m) (hz : zs.length = m + 1) (hl : cur0.size = m) (h3 : (cur0.toList.take 0 ++ (us (zs.take k) ++ cur0.toList.drop (0 + (us (zs.take k)).length))).toArray = cur1) : cur1.toList.take k = us (zs.take k) ∧ cur1.size = m := by
 have hlen : (us (zs.take k)).length = k := by rw [us_len, List.length_take]; omega
 subst h3
 rw [List.take_zero, List.nil_append, Nat.zero_add, hlen]
 refine ⟨?_, by simp [hlen]; omega⟩
 rw [List.take_append_of_le_length (by omega)]
 exact List.take_of_length_le (by omega)
theorem del_len {zs : List Int} {k m : Nat} (hn : zs.length = m + 1) (hk : k ≤ m) : (zs.take k ++ zs.drop (k + 1)).length = m := by simp; omega
theorem del_at {zs : List Int} {k j : Nat} {cur1 : Array Value} {R : List Value} {u : Value} (h3 : cur1.toList.take k = us (zs.take k)) (hj : (us (zs.take k ++ zs.drop (k + 1)))[j]? = some u) : (cur1.toList.take k ++ (us (zs.drop (k + 1)) ++ R)).toArray[j]? = some u := by
 have e : cur1.toList.take k ++ (us (zs.drop (k + 1)) ++ R) = us (zs.take k ++ zs.drop (k + 1)) ++ R := by rw [h3]; simp [us]
 rw [List.getElem?_toArray, e, List.getElem?_append_left (List.getElem?_eq_some_iff.1 hj).1]
 exact hj
theorem del_last {zs : List Int} {k j : Nat} {cur1 : Array Value} {u : Value} (hz : zs.length = k + 1) (h3 : cur1.toList.take k = us (zs.take k)) (hj : (us (zs.take k ++ zs.drop (k + 1)))[j]? = some u) : cur1[j]? = some u := by
 have hd : zs.drop (k + 1) = [] := List.drop_eq_nil_of_le (by omega)
 rw [hd, List.append_nil, ← h3, List.getElem?_take] at hj
 split at hj
 · simpa using hj
 · cases hj
set_option maxHeartbeats 4000000
set_option maxRecDepth 1000000
theorem remove_some (b off m c : Nat) (zs : List Int) (x : Int) (w : World) (hn : zs.length = m + 1) (hnc : m + 1 ≤ c) (hbig : m + 1 ≤ 4096) (hc : ∀ j u, (us zs)[j]? = some u → w.cell? ⟨b, off + j, none⟩ = some u) (hs : zs.Pairwise (· ≤ ·)) (hx : x ∈ zs) :
 Calls Tryz.prog 96 #[.slice (some ⟨b, off, none⟩) (m + 1) c, .int .u64 x] w fun e w' => ∃ v, e = .returned v ∧ Rising w' v (del zs x) ∧ NewRow w v ∧ Upd Nowhere w w' := by
 obtain ⟨i0, hi, hz0, hz1, hz2⟩ := info_parts infoU
 have hsz : (Tryz.prog.info? TU).map (·.size) = some 1 := by rw [hi]; exact congrArg some hz1
 have HS := Lib.hid (search b off (m + 1) c zs x w (by omega) (by omega) (fun j hj => hc j _ (us_get zs hj)) (by rw [List.take_of_length_le (by omega)]; exact hs))
 rw [List.take_of_length_le (by omega)] at HS
 have hct : zs.contains x = true := by simpa using hx
 rw [hct] at HS
 obtain ⟨k, hk⟩ : ∃ k, zs.countP (· < x) = k := ⟨_, rfl⟩
 have hkn : k ≤ m := by have := count_in hx; omega
 have hdel : del zs x = zs.take k ++ zs.drop (k + 1) := by unfold del; rw [hk]
 rw [hdel]
 rw [hk] at HS
 have HC := Lib.hid hc
 have HN := Lib.hid hn
 have hk2 : (k : Int) ≤ m := by omega
 have hk3 : (k : Int) ≤ (m : Int) + 1 := by omega
 have hk4 : (k : Int) + 1 ≤ (m : Int) + 1 := by omega
 have hnc2 : (m : Int) + 1 ≤ c := by omega
 have hkc : (k : Int) ≤ c := by omega
 have hkc2 : (k : Int) + 1 ≤ c := by omega
 have e1 : IntKind.i64.wrap (((m + 1 : Nat) : Int) - 1) = (m : Int) := by rw [IntKind.wrap_i64]; omega
 have e1' : IntKind.i64.wrap ((m : Int) + 1 - 1) = (m : Int) := by rw [IntKind.wrap_i64]; omega
 have e2 : IntKind.i64.wrap ((k : Int) + 1) = ((k + 1 : Nat) : Int) := by rw [IntKind.wrap_i64]; omega
 clear hc hs hk hdel hx hct
 go_enter Tryz.func96, Tryz.ntmps96
 go_wp2_with fail
 refine HS.out.mono ?_
 rintro e w' ⟨rfl, q, rfl⟩
 have hUq : Upd Nowhere w (w.drewN q) := (Upd.refl _ _).drewN q
 go_upto_region 4 with fail
 generalize w.drewN q = w0 at *
 go_upto_region 5 with (refine wpList_make_full _ rfl _ _ 131 rfl w0.heap.size TU i0 (.int .u64 0) 1 Tryz.underlying131 hi hz0 hz1 .i64 .i64 _ _ m rfl rfl (by simp) (by simp) (by rw [hz2]; omega) (by unfold maxLen; omega) (Nat.le_refl _) ?_; intro w1 hown hgr)
 have hu1 : Upd Nowhere w w1 := hUq.trans ((Upd.refl Nowhere w0).grown hgr (fun k _ h => by cases h)) (fun _ _ h => h)
 obtain ⟨cur0, hc0, _, _, hcs0, _⟩ := Blk.own hown
 have hsz0 : cur0.size = m := by omega
 have hgu := hUq.size
 go_wp2_with (refine wpList_copy_own rfl _ _ 131 131 rfl TU Tryz.underlying131 hsz w0.heap.size 0 m m ⟨b, off, none⟩ k c rfl rfl cur0 TU hc0 (us (zs.take k)) (by rw [us_len, List.length_take, HN.out]; show min k (m + 1) = min k m; omega) (fun j v hv => by rw [add_at]; exact cell_old hu1 (HC.out j v (us_take hv))) (by rw [us_len, List.length_take, HN.out]; omega) (us_one _) ?_; obtain ⟨hB2, hu2⟩ := setRow_eq w1 w0.heap.size (cur0.toList.take 0 ++ (us (zs.take k) ++ cur0.toList.drop (0 + (us (zs.take k)).length))).toArray cur0 TU hc0; generalize World.setRow w1 _ _ = w3 at *; simp only [Act.put, goInt, List.setIfInBounds_toArray, List.set_cons_succ, List.set_cons_zero])
 have hu3 : Upd Nowhere w w3 := hu1.trans hu2 (fun q hq h => by omega)
 obtain ⟨cur3, hc3⟩ : ∃ a, ((cur0.toList.take 0 ++ (us (zs.take k) ++ cur0.toList.drop (0 + (us (zs.take k)).length))).toArray) = a := ⟨_, rfl⟩
 rw [hc3] at hB2
 have hB3 := hB2
 obtain ⟨h3, hsz3⟩ := took_del hkn HN.out hsz0 hc3
 have H3 := Lib.hid h3
 clear hc3 hB2 hu2 hu1 hown hgr hc0 h3
 rcases Nat.lt_or_ge k m with hlt | hge
 · have q1 : ¬ m = k := by omega
   have q2 : ¬ c = k + 1 := by omega
   refine wp_region_tail 7 (by kernel_rfl) (by kernel_rfl) ?_
   simp only [List.take_succ_cons, List.take_zero, List.drop_succ_cons, List.drop_zero]
   repeat (go_big_quiet_step (fail))
   refine wpQuiet_nil ?_
   rintro _ ⟨nq, rfl⟩
   refine wpList_copy_own rfl _ _ 131 131 rfl TU Tryz.underlying131 hsz w0.heap.size k _ _ ⟨b, off + (k + 1), none⟩ _ _ rfl rfl cur3 TU hB3 (us (zs.drop (k + 1))) (by rw [us_len, List.length_drop, HN.out, Nat.add_sub_add_right]; exact (Nat.min_self _).symm) (fun j v hv => by rw [add_at, Nat.add_assoc]; exact cell_old (hu3.drewN nq) (HC.out (k + 1 + j) v (us_drop hv))) (by rw [us_len, List.length_drop, HN.out]; omega) (us_one _) ?_
   obtain ⟨hB4, hu4⟩ := setRow_eq (w3.drewN nq) w0.heap.size (cur3.toList.take k ++ (us (zs.drop (k + 1)) ++ cur3.toList.drop (k + (us (zs.drop (k + 1))).length))).toArray cur3 TU hB3
   have hu5 : Upd Nowhere w _ := (hu3.drewN nq).trans hu4 (fun q hq h => by omega)
   generalize World.setRow (w3.drewN nq) _ _ = w4 at *
   go_wp2
   refine Stage.out ?_
   go_wp2
   go_ret
   exact ⟨_, rfl, .inr ⟨w0.heap.size, m, by rw [del_len HN.out hkn]; rfl, by rw [del_len HN.out hkn]; exact Nat.le_refl _, hB4.lt, fun j u hj => hB4.cellAt (del_at H3.out hj)⟩, new_row hgu _ _, hu5⟩
 · obtain rfl : k = m := by omega
   by_cases hck : c = k + 1
   · subst hck
     refine wp_region_tail 7 (by kernel_rfl) (by kernel_rfl) ?_
     simp only [List.take_succ_cons, List.take_zero, List.drop_succ_cons, List.drop_zero]
     repeat (go_big_quiet_step (fail))
     refine wpQuiet_nil ?_
     rintro _ ⟨nq, rfl⟩
     refine wpList_copy_nothing rfl _ _ 131 131 rfl TU Tryz.underlying131 hsz _ _ _ _ _ _ rfl rfl (by simp) ?_
     go_wp2
     refine Stage.out ?_
     go_wp2
     go_ret
     exact ⟨_, rfl, .inr ⟨w0.heap.size, k, by rw [del_len HN.out hkn]; rfl, by rw [del_len HN.out hkn]; exact Nat.le_refl _, hB3.lt, fun j u hj => (hB3.drewN nq).cellAt (del_last HN.out H3.out hj)⟩, new_row hgu _ _, hu3.drewN nq⟩
   · refine wp_region_tail 7 (by kernel_rfl) (by kernel_rfl) ?_
     simp only [List.take_succ_cons, List.take_zero, List.drop_succ_cons, List.drop_zero]
     repeat (go_big_quiet_step (fail))
     refine wpQuiet_nil ?_
     rintro _ ⟨nq, rfl⟩
     refine wpList_copy_nothing rfl _ _ 131 131 rfl TU Tryz.underlying131 hsz _ _ _ _ _ _ rfl rfl (by simp) ?_
     go_wp2
     refine Stage.out ?_
     go_wp2
     go_ret
     exact ⟨_, rfl, .inr ⟨w0.heap.size, k, by rw [del_len HN.out hkn]; rfl, by rw [del_len HN.out hkn]; exact Nat.le_refl _, hB3.lt, fun j u hj => (hB3.drewN nq).cellAt (del_last HN.out H3.out hj)⟩, new_row hgu _ _, hu3.drewN nq⟩
end Go.Proofs.YtdddfmdcjjbegaaGreat.Aifo
namespace Go.Proofs.YtdddfmdcjjbegaaGreat.Aifo
open Go.RowKit Go.Proofs BigFrame
set_option maxHeartbeats 4000000
set_option maxRecDepth 1000000
theorem search_nil (x : Int) (w : World) : Calls Tryz.prog 117 #[.slice none 0 0, .int .u64 x] w fun e w' => e = .returned (.tuple #[.int .i64 0, .bool false]) ∧ w' = w := by
 go_enter Tryz.func117, Tryz.ntmps117
 go_wp2
 go_loopw [7, 8] (fun a b wr => a = .int .i64 0 ∧ b = .int .i64 0 ∧ wr = w) (fun _ _ _ => 0)
 case atStart => exact ⟨rfl, rfl, rfl⟩
 case round =>
  obtain ⟨rfl, rfl, rfl⟩ := hrel
  go_wp2
  go_ret2
  exact ⟨rfl, rfl⟩
theorem insert_nil (x : Int) (w : World) :
 Calls Tryz.prog 98 #[.slice none 0 0, .int .u64 x] w fun e w' => ∃ v, e = .returned v ∧ Rising w' v (ins [] x) ∧ NewRow w v ∧ Upd Nowhere w w' := by
 obtain ⟨i0, hi, hz0, hz1, hz2⟩ := info_parts infoU
 have hsz : (Tryz.prog.info? TU).map (·.size) = some 1 := by rw [hi]; exact congrArg some hz1
 go_enter Tryz.func98, Tryz.ntmps98
 go_wp2_with fail
 refine (search_nil x w).mono ?_
 rintro e w' ⟨rfl, rfl⟩
 go_upto_region 3 with (refine wpList_make_full _ rfl _ _ 131 rfl w'.heap.size TU i0 (.int .u64 0) 1 Tryz.underlying131 hi hz0 hz1 .i64 .i64 _ _ 1 rfl rfl rfl rfl (by rw [hz2]; omega) (by unfold maxLen; omega) (Nat.le_refl _) ?_; intro w1 hown hgr)
 have hu1 : Upd Nowhere w' w1 := (Upd.refl Nowhere w').grown hgr (fun k _ h => by cases h)
 obtain ⟨cur0, hc0, _, _, hcs0, _⟩ := Blk.own hown
 have z0 := Blk.free (show Blk w1 w'.heap.size cur0 TU from hc0) 0
 obtain ⟨y, hy⟩ : ∃ y, w1.cell? ⟨w'.heap.size, 0, none⟩ = some y := ⟨cur0[0]'(by omega), by rw [Blk.cell (show Blk w1 w'.heap.size cur0 TU from hc0)]; simp⟩
 go_upto_region 5 with (refine wpList_copy_nothing rfl _ _ 131 131 rfl TU Tryz.underlying131 hsz _ _ _ _ _ _ rfl rfl rfl ?_)
 refine wp_region_tail 7 (by kernel_rfl) (by kernel_rfl) ?_
 simp only [List.take_succ_cons, List.take_zero, List.drop_succ_cons, List.drop_zero]
 repeat (go_big_quiet_step (fail))
 refine wpQuiet_nil ?_
 rintro _ ⟨nq, rfl⟩
 refine wpList_copy_nothing rfl _ _ 131 131 rfl TU Tryz.underlying131 hsz _ _ _ _ _ _ rfl rfl (by simp) ?_
 go_wp2
 refine Stage.out ?_
 go_wp2
 go_ret
 have hB3 := Blk.set (show Blk w1 w'.heap.size cur0 TU from hc0) 0 (.int .u64 x)
 refine ⟨_, rfl, .inr ⟨w'.heap.size, 1, rfl, Nat.le_refl _, hB3.lt, fun j u hj => ?_⟩, new_row (Nat.le_refl _) _ _, (hu1.setNew (a := ⟨w'.heap.size, 0, none⟩) (Nat.le_refl _) _).drewN nq⟩
 have hj' : [Value.int .u64 x][j]? = some u := hj
 cases j with
 | zero =>
   obtain rfl := Option.some.inj hj'
   exact hB3.cellAt (Array.getElem?_setIfInBounds_self_of_lt (by omega))
 | succ j => simp at hj'
end Go.Proofs.YtdddfmdcjjbegaaGreat.Aifo

