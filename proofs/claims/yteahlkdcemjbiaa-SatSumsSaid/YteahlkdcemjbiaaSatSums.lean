/- SatSums. -/
import Derived.Test.YteahlkdcemjbiaaSatLives
import Derived.Test.YteahlkdcemjbiaaClose
namespace Go.Proofs.Yteahlkdcemjbiaa.Sat
open Go.RowKit Go.Proofs BigFrame
open Wide (Gives)
set_option maxHeartbeats 1000000
set_option maxRecDepth 100000
theorem info64 : (Try.prog.info? 22).map (fun i => (i.zero, i.size, i.bytes)) = some (some (.int .u64 0), 1, 8) := by kernel_rfl
theorem tot_reverse (l : List Nat) : tot l.reverse = tot l := by simp [tot, List.sum_reverse]
theorem le_sum : ∀ {l : List Nat} {x : Nat}, x ∈ l → x ≤ l.sum
  | y :: l, x, h => by
    rw [List.sum_cons]
    rcases List.mem_cons.1 h with rfl | h
    · omega
    · have := le_sum h; omega
theorem le_tot {l : List Nat} {i x : Nat} (h : l[i]? = some x) (hx : x ≤ 18446744073709551615) : x ≤ tot l := by
  have := List.mem_of_getElem? h
  have h1 := le_sum this
  unfold tot; omega
theorem push_cell {w w2 : World} {o : Obj} {base : Nat} {e : TypeId} {size n : Nat} {v u : Value} {xs : List Value} {g j : Nat} (h : w.cell? ⟨g, j, none⟩ = some u) (hown : w.ownsRow base e size v n xs) (hu : Upd (fun k => v.ownBlock = some k) (w.alloc o) w2) (hg : g < base) :
    w2.cell? ⟨g, j, none⟩ = some u := by
  have h1 := cell_lt h
  rw [hu.cell j (by simp at *; omega) (fun h2 => by have := (hown.lt g h2).1; omega)]
  rw [World.cell?_alloc_lt _ _ _ h1]; exact h
theorem sums_law (w : World) (va : Value) (l : List Nat) (ha : RowAt w va (nums l)) (hlen : l.length ≤ 9223372036854775807) (hb : ∀ (i x : Nat), l[i]? = some x → x ≤ 18446744073709551615) :
    Calls Try.prog 7 #[va] w fun e w' => e = .returned (.bool true) ∧ Upd Nowhere w w' := by
  have HL := fun u => Lib.hid (lives u)
  rcases Nat.lt_or_ge 1000 l.length with hbig | hsm
  · obtain ⟨ad, c, rfl, _⟩ := ha
    rw [nums_len]
    have t1 : decide ((l.length : Int) > 1000) = true := by simp; omega
    go_enter Try.func7, Try.ntmps7
    go_wp2_with fail
    refine ((HL _).out).mono ?_
    rintro e w1 ⟨rfl, u1⟩
    go_wp2_with fail
    go_ret
    exact ⟨rfl, u1⟩
  · obtain ⟨i0, hi, hz0, hz1, hz2⟩ := info_parts info64
    have H1 := fun u h => Lib.hid (sat_sum u va l h (by omega) hb)
    have H2 := fun u h => Lib.hid (ref_sum u va l h (by omega) hb)
    have hbr : ∀ (i x : Nat), l.reverse[i]? = some x → x ≤ 18446744073709551615 := fun i x h => by
      have h1 := List.mem_reverse.1 (List.mem_of_getElem? h)
      obtain ⟨j, hj, e⟩ := List.getElem_of_mem h1
      exact hb j x (by rw [List.getElem?_eq_getElem hj, e])
    have H3 := fun u v h => Lib.hid (sat_sum u v l.reverse h (by rw [List.length_reverse]; omega) hbr)
    rw [tot_reverse] at H3
    have HA := Lib.hid ha
    obtain ⟨ad, ca, rfl, ha0, ha1⟩ := ha
    have HT : Hid (∀ (i x : Nat), l[i]? = some x → x ≤ tot l) := Lib.hid (fun i x h => le_tot h (hb i x h))
    obtain ⟨L, hL⟩ : ∃ L, l.length = L := ⟨_, rfl⟩
    rw [nums_len, hL] at HA H1 H2 ⊢
    rw [hL] at hsm hlen
    have HLL := Lib.hid hL
    have HB := Lib.hid hb
    obtain ⟨T, hT⟩ : ∃ T, tot l = T := ⟨_, rfl⟩
    rw [hT] at H1 H2 H3 HT
    have hT0 : T ≤ 18446744073709551615 := by rw [← hT]; exact tot_le l
    have t0 : decide ((L : Int) > 1000) = false := by simp; omega
    clear hL hb hbr hT
    go_enter Try.func7, Try.ntmps7
    go_wp2_with fail
    refine ((H1 _ HA.out).out).mono ?_
    rintro e w' ⟨rfl, k1, rfl⟩
    go_wp2_with fail
    go_loopw [4, 14] (fun bv i wr => ∃ k : Nat, k ≤ L ∧ i = .int .i64 k ∧ wr.ownsRow w.heap.size 22 1 bv k (nums (l.reverse.take k)) ∧ Upd Nowhere w wr) (fun _ i _ => L - (intOf i).toNat)
    case atStart => exact ⟨0, by omega, rfl, by simpa [nums] using ownsRow_nil _ _ _ _, (Upd.refl _ _).drewN _⟩
    case round =>
      obtain ⟨k, hk, rfl, hown, hu⟩ := hrel
      by_cases hlt : k < L
      · obtain ⟨x, hx⟩ : ∃ x, l[k]? = some x := ⟨l[k]'(by rw [HLL.out]; exact hlt), by simp⟩
        obtain ⟨y, hy⟩ : ∃ y, l[L - 1 - k]? = some y := ⟨l[L - 1 - k]'(by rw [HLL.out]; omega), by simp⟩
        have hy2 : l.reverse[k]? = some y := by rw [List.getElem?_reverse (by rw [HLL.out]; exact hlt), HLL.out]; exact hy
        have hxT := HT.out k x hx
        cases ad with
        | none => have := (ha0 rfl).1; have h3 := nums_at hx; rw [this] at h3; simp at h3
        | some aa =>
        obtain ⟨hsa, ea⟩ := ha1 aa rfl k _ (nums_at hx)
        obtain ⟨_, eb⟩ := ha1 aa rfl (L - 1 - k) _ (nums_at hy)
        obtain ⟨ga, oa, sa⟩ := aa
        simp only at hsa ea eb
        subst hsa
        have hga := cell_lt ea
        have ea' : wr.cell? ⟨ga, oa + k, none⟩ = some (.int .u64 x) := (hu.cell _ hga (fun h => h)).trans ea
        have eb' : wr.cell? ⟨ga, oa + (L - 1 - k), none⟩ = some (.int .u64 y) := (hu.cell _ hga (fun h => h)).trans eb
        have hI : (k : Int) < L := by omega
        have hle : w.heap.size ≤ wr.heap.size := hu.size
        have HY := Lib.hid hy2
        clear hx hy hy2 ha0 ha1 ea eb
        go_wp2_with (at_builtin; refine wpList_push rfl _ _ 42 rfl w.heap.size 22 i0 (.int .u64 0) 1 8 Try.underlying42 hi hz0 hz1 hz2 rfl (by decide) (by decide) _ _ _ rfl (hown.alloc _) wr.heap.size 1 [.int .u64 y] rfl rfl (new_cells _ #[_] _) (by simp [Value.oneCell']) (by omega) (by simp; omega) ?_; intro v2 w2 hown2 hu2 hn2; have ec : w2.cell? ⟨ga, oa + k, none⟩ = some (.int .u64 x) := push_cell ea' hown hu2 hga; clear ea' eb')
        go_roundw
        case rel =>
          refine ⟨k + 1, by omega, by go_num, ?_, ?_⟩
          · have e2 : l.reverse.take (k + 1) = l.reverse.take k ++ [y] := by rw [List.take_add_one, HY.out]; rfl
            rw [e2]
            simpa [nums] using hown2
          · exact (hu.alloc _).trans hu2 (fun i hi2 hi3 => absurd (hown.lt i hi3).1 (Nat.not_le.2 hi2))
        case measure => simp [intOf]; omega
      · obtain rfl : k = L := by omega
        have e : l.reverse.take k = l.reverse := List.take_of_length_le (by rw [List.length_reverse, HLL.out]; exact Nat.le_refl _)
        rw [e] at hown
        have HR := Lib.hid (ownsRow_rowAt hown)
        clear ha0 ha1 e
        go_wp2_with fail
        refine ((H2 _ (HA.out.old hu)).out).mono ?_
        rintro e w2 ⟨rfl, u2⟩
        go_wp2_with fail
        refine ((H3 _ _ (HR.out.old u2)).out).mono ?_
        rintro e w3 ⟨rfl, k3, rfl⟩
        go_wp2_with fail
        refine ((HL _).out).mono ?_
        rintro e w4 ⟨rfl, u4⟩
        go_wp2_with fail
        go_ret
        exact ⟨rfl, ((hu.trans u2 (fun _ _ h => h)).drewN k3).trans u4 (fun _ _ h => h)⟩
theorem sums_int (w : World) (va : Value) (l : List Int) (ha : RowAt w va (l.map (.int .u64))) (hw : ∀ n ∈ l, (Lit.int .u64 n).wf = true) (hlen : l.length ≤ 9223372036854775807) :
    Calls Try.prog 7 #[va] w fun e w' => e = .returned (.bool true) ∧ Upd Nowhere w w' := by
  have e : l.map (Value.int .u64) = nums (l.map Int.toNat) := by
    unfold nums
    rw [List.map_map]
    refine List.map_congr_left fun n hn => ?_
    have := bd64 (hw n hn)
    simp only [Function.comp]
    congr 1; omega
  rw [e] at ha
  refine sums_law w va _ ha (by simpa using hlen) fun i x h => ?_
  have := List.mem_of_getElem? h
  obtain ⟨n, hn, rfl⟩ := List.mem_map.1 this
  have := bd64 (hw n hn)
  omega
end Go.Proofs.Yteahlkdcemjbiaa.Sat
