/- bucket, and the reference's bucket: Wait, New; the examples. -/
import Derived.Test.YtgmiggnlhcldlaaBucket
import Derived.Test.YtgmiggnlhcldlaaRoot
import Derived.Test.YtgmiggnlhcldlaaKeep
import Derived.Deep.RegionHeld3
namespace Go.Proofs.Ytgmiggnlhcldlaa.Bucket
open Go.RowKit Go.Proofs BigFrame
open Wide (Gives four dg)
open Bits (wrapN addN)
open Sat (shl1 ups)
open Root (top top_spec)
set_option maxHeartbeats 1000000
set_option maxRecDepth 100000
theorem wait_no (r b t n : Nat) (hc : chk r b t ≠ 0) (w : World) : Calls Try.prog 15 #[.agg #[.int .u64 r, .int .u64 b, .int .u64 t], .int .u64 n] w fun e w' => Gives w (.tuple #[.int .u64 0, .bool false]) e w' := by
  have H1 := fun u => Lib.hid (check_any r b t u)
  generalize chk r b t = c at *
  have ec : ((c : Int) == 0) = false := by simp; omega
  have en : ((c : Int) != 0) = true := by simp; omega
  clear hc
  go_enter Try.func15, Try.ntmps15
  go_wp2_with fail
  refine ((H1 _).out).mono ?_
  rintro e w1 ⟨rfl, u1⟩
  go_wp2_with fail
  go_ret2
  exact ⟨rfl, ((Upd.refl _ _).alloc _).trans u1 (fun _ _ h => h)⟩
theorem wait_far (r b t n : Nat) (hc : chk r b t = 0) (hn : b < n) (w : World) : Calls Try.prog 15 #[.agg #[.int .u64 r, .int .u64 b, .int .u64 t], .int .u64 n] w fun e w' => Gives w (.tuple #[.int .u64 0, .bool false]) e w' := by
  have h1 := fun u => check_any r b t u
  rw [hc] at h1
  have H1 := fun u => Lib.hid (h1 u)
  clear h1 hc
  go_enter Try.func15, Try.ntmps15
  go_wp2_with fail
  refine ((H1 _).out).mono ?_
  rintro e w1 ⟨rfl, u1⟩
  obtain ⟨c0, c1, c2, z0, z1, z2⟩ := cells3 ((Blk.new w #[.int .u64 r, .int .u64 b, .int .u64 t] 25).kept u1 id)
  go_wp2_with fail
  go_ret2
  exact ⟨rfl, ((Upd.refl _ _).alloc _).trans u1 (fun _ _ h => h)⟩
theorem wait_ok (r b t n : Nat) (hr : r ≤ 18446744073709551615) (hb : b ≤ 18446744073709551615) (hc : chk r b t = 0) (hn : n ≤ b) (w : World) : Calls Try.prog 15 #[.agg #[.int .u64 r, .int .u64 b, .int .u64 t], .int .u64 n] w fun e w' => Gives w (.tuple #[.int .u64 (ups (n - t) r : Nat), .bool true]) e w' := by
  have ht := (chk_ok.1 hc).2.2
  have h1 := fun u => check_any r b t u
  rw [hc] at h1
  have H1 := fun u => Lib.hid (h1 u)
  have H2 := fun u => Lib.hid (Sat.sat_sub n t (by omega) (by omega) u)
  have H3 := fun u => Lib.hid (Sat.sat_divup (n - t) r (by omega) hr u)
  generalize ups (n - t) r = y at *
  generalize n - t = d at *
  clear h1 hc hr hb ht
  go_enter Try.func15, Try.ntmps15
  go_wp2_with fail
  refine ((H1 _).out).mono ?_
  rintro e w1 ⟨rfl, u1⟩
  obtain ⟨c0, c1, c2, z0, z1, z2⟩ := cells3 ((Blk.new w #[.int .u64 r, .int .u64 b, .int .u64 t] 25).kept u1 id)
  go_wp2_with fail
  go_quiet ((first | (go_at_call 42; exact quiet_same (H2 _).out) | (go_at_call 41; exact quiet_same (H3 _).out)))
  go_wp2_with fail
  go_ret2
  exact ⟨rfl, (((Upd.refl _ _).alloc _).trans u1 (fun _ _ h => h)).drewN _⟩
theorem rwait_no (r b t n : Nat) (hc : chk r b t ≠ 0) (w : World) : Calls Try.prog 16 #[.agg #[.int .u64 r, .int .u64 b, .int .u64 t], .int .u64 n] w fun e w' => Gives w (.tuple #[.int .u64 0, .bool false]) e w' := by
  have H1 := fun u => Lib.hid (rcheck_any r b t u)
  generalize chk r b t = c at *
  have ec : ((c : Int) == 0) = false := by simp; omega
  have en : ((c : Int) != 0) = true := by simp; omega
  clear hc
  go_enter Try.func16, Try.ntmps16
  go_wp2_with fail
  refine ((H1 _).out).mono ?_
  rintro e w1 ⟨rfl, u1⟩
  go_wp2_with fail
  go_ret2
  exact ⟨rfl, ((Upd.refl _ _).alloc _).trans u1 (fun _ _ h => h)⟩
theorem rwait_far (r b t n : Nat) (hc : chk r b t = 0) (hn : b < n) (w : World) : Calls Try.prog 16 #[.agg #[.int .u64 r, .int .u64 b, .int .u64 t], .int .u64 n] w fun e w' => Gives w (.tuple #[.int .u64 0, .bool false]) e w' := by
  have h1 := fun u => rcheck_any r b t u
  rw [hc] at h1
  have H1 := fun u => Lib.hid (h1 u)
  clear h1 hc
  go_enter Try.func16, Try.ntmps16
  go_wp2_with fail
  refine ((H1 _).out).mono ?_
  rintro e w1 ⟨rfl, u1⟩
  obtain ⟨c0, c1, c2, z0, z1, z2⟩ := cells3 ((Blk.new w #[.int .u64 r, .int .u64 b, .int .u64 t] 24).kept u1 id)
  go_wp2_with fail
  go_ret2
  exact ⟨rfl, ((Upd.refl _ _).alloc _).trans u1 (fun _ _ h => h)⟩
/-- Half by half: the greatest number of ticks that are too few. -/
theorem few_eq (r t n : Nat) (hr : 0 < r) (ht : t < n) (hn : n ≤ 18446744073709551615) : top (fun m => decide (t + r * m < n)) 64 0 + 1 = ups (n - t) r ∧ top (fun m => decide (t + r * m < n)) 64 0 < 18446744073709551615 := by
  have h := top_spec (p := fun m => decide (t + r * m < n)) (fun a b hab h => by
    simp only [decide_eq_true_eq] at *
    have := Nat.mul_le_mul_left r hab
    omega) 64 0 (by simpa using ht) (by
      have := Nat.mul_le_mul_right 18446744073709551616 hr
      simp; omega)
  generalize top (fun m => decide (t + r * m < n)) 64 0 = S at *
  obtain ⟨h1, h2⟩ := h
  simp only [decide_eq_true_eq, decide_eq_false_iff_not] at h1 h2
  have h3 : S ≤ r * S := Nat.le_mul_of_pos_left S hr
  refine ⟨?_, by omega⟩
  unfold ups
  rw [if_neg (by omega), if_neg (by omega)]
  congr 1
  refine (Nat.div_eq_of_lt_le ?_ ?_).symm
  · rw [Nat.mul_comm]; omega
  · rw [Nat.mul_comm]; omega
theorem rwait_ok (r b t n : Nat) (hr : r ≤ 18446744073709551615) (hb : b ≤ 18446744073709551615) (hc : chk r b t = 0) (hn : n ≤ b) (w : World) : Calls Try.prog 16 #[.agg #[.int .u64 r, .int .u64 b, .int .u64 t], .int .u64 n] w fun e w' => Gives w (.tuple #[.int .u64 (ups (n - t) r : Nat), .bool true]) e w' := by
  obtain ⟨hr0, _, htb⟩ := chk_ok.1 hc
  have h1 := fun u => rcheck_any r b t u
  rw [hc] at h1
  have H1 := fun u => Lib.hid (h1 u)
  rcases Nat.lt_or_ge t n with ht | ht
  · obtain ⟨eS, hS1⟩ := few_eq r t n hr0 ht (by omega)
    have hmb := fun X (hX : X ≤ 18446744073709551615) => Sat.prod_lt hr hX
    have h2 := fun x (hx : x ≤ 18446744073709551615) u => Wide.of_any x hx u
    have h3 := fun X (hX : X ≤ 18446744073709551615) u => Wide.times_any r X hr hX u
    have h4 := fun X (hX : X ≤ 18446744073709551615) u => Sat.plus_num t (r * X) (by have := hmb X hX; omega) u
    have h5 := fun X (hX : X ≤ 18446744073709551615) u => Sat.less_num (t + r * X) n (by have := hmb X hX; omega) (by omega) u
    obtain ⟨V, hV⟩ : ∃ V : Nat → Value, ∀ m, four (dg m) = V m := ⟨_, fun _ => rfl⟩
    simp only [hV] at h2 h3 h4 h5
    have H2 := fun x hx u => Lib.hid (h2 x hx u)
    obtain ⟨S, hS⟩ : ∃ S, top (fun m => decide (t + r * m < n)) 64 0 = S := ⟨_, rfl⟩
    rw [hS] at hS1
    have HS := Lib.hid hS
    have HE : Hid (ups (n - t) r = S + 1) := Lib.hid (by rw [← eS, hS])
    have htm : t ≤ 18446744073709551615 := by omega
    have hnm : n ≤ 18446744073709551615 := by omega
    have eW : IntKind.u64.wrap ((S : Int) + 1) = ((S + 1 : Nat) : Int) := by have := wrapN (S + 1) (by omega); rw [← this]; push_cast; rfl
    have tb : decide (b < n) = false := decide_eq_false (by omega)
    have tn : decide (n ≤ t) = false := decide_eq_false (by omega)
    clear h1 h2 hc hr hb eS hmb hV hS
    go_enter Try.func16, Try.ntmps16
    go_wp2_with fail
    refine ((H1 _).out).mono ?_
    rintro e w1 ⟨rfl, u1⟩
    have hB := (Blk.new w #[.int .u64 r, .int .u64 b, .int .u64 t] 24).kept u1 id
    obtain ⟨c0, c1, c2, z0, z1, z2⟩ := cells3 hB
    have hu1 := ((Upd.refl Nowhere w).alloc (.cells #[.int .u64 r, .int .u64 b, .int .u64 t] 24)).trans u1 (fun _ _ h => h)
    go_wp2_with fail
    clear c0 c1 c2 z0 z1 z2
    go_loopw [6, 7] (fun kv i wr => ∃ j k : Nat, j ≤ 64 ∧ kv = .int .u64 k ∧ (∃ x : Int, i = .int .i64 x ∧ x = (j : Int) - 1) ∧ k + 2 ^ j ≤ 18446744073709551616 ∧ top (fun m => decide (t + r * m < n)) j k = S ∧ Blk wr w.heap.size #[.int .u64 r, .int .u64 b, .int .u64 t] 24 ∧ Upd Nowhere w wr) (fun _ i _ => (intOf i + 1).toNat)
    case atStart => exact ⟨64, 0, by omega, rfl, ⟨63, rfl, rfl⟩, by simp, HS.out, hB, hu1⟩
    case round =>
      obtain ⟨j, k, hj, rfl, ⟨x, rfl, hx⟩, hk, htop, hBr, hu⟩ := hrel
      have HT := Lib.hid htop
      clear htop HS hB hu1
      cases j with
      | zero =>
        obtain rfl : x = -1 := by omega
        have HT2 : k = S := HT.out
        subst HT2
        clear hx hk HT h3 h4 h5 H2
        go_wp2_with fail
        go_ret2
        exact ⟨congrArg (fun m : Nat => Ending.returned (.tuple #[.int .u64 (m : Int), .bool true])) HE.out.symm, hu⟩
      | succ m =>
        obtain rfl : x = (m : Int) := by omega
        have hp0 := Nat.two_pow_pos m
        rw [Root.pow_dbl] at hk
        have e2 : IntKind.u64.wrap ((k : Int) + ((2 ^ m : Nat) : Int)) = ((k + 2 ^ m : Nat) : Int) := by rw [addN]; exact wrapN _ (by omega)
        have HT2 : Hid (top (fun m => decide (t + r * m < n)) m (if decide (t + r * (k + 2 ^ m) < n) = true then k + 2 ^ m else k) = S) := by
          have h := HT.out
          unfold top at h
          exact Lib.hid h
        clear HT
        obtain ⟨X, hX⟩ : ∃ X, k + 2 ^ m = X := ⟨_, rfl⟩
        have HK1 : Hid (X + 2 ^ m ≤ 18446744073709551616) := Lib.hid (by omega)
        have HK2 : Hid (k + 2 ^ m ≤ 18446744073709551616) := Lib.hid (by omega)
        have hXM : X ≤ 18446744073709551615 := by omega
        rw [hX] at e2 HT2
        have H3 := fun u => Lib.hid (h3 X hXM u)
        have H4 := fun u => Lib.hid (h4 X hXM u)
        have H5 := fun u => Lib.hid (h5 X hXM u)
        have e1 := shl1 m (by omega)
        obtain ⟨M, hM⟩ : ∃ M, 2 ^ m = M := ⟨_, rfl⟩
        rw [hM] at e1 e2
        have HM := Lib.hid hM
        generalize decide (t + r * X < n) = D at *
        generalize V (r * X) = V1 at *
        generalize V (t + r * X) = V2 at *
        obtain ⟨c0, c1, c2, z0, z1, z2⟩ := cells3 hBr
        have hS0 : Upd Nowhere wr wr.drew := (Upd.refl _ _).drew
        clear hX hM hk hp0 hx h3 h4 h5
        go_wp2_with fail
        go_region_held3 (fun w' => Upd Nowhere wr w' ∧ w'.cell? ⟨w.heap.size, 0, none⟩ = some (.int .u64 r) ∧ w'.cell? ⟨w.heap.size, 1, none⟩ = some (.int .u64 b) ∧ w'.cell? ⟨w.heap.size, 2, none⟩ = some (.int .u64 t)) (first | exact ⟨hS0, c0, c1, c2⟩ | assumption)
          (first
            | (go_at_call 23; refine (keepC3 (H2 _ (by omega) _).out (by assumption)).mono ?_; rintro e w' ⟨rfl, _⟩)
            | (go_at_call 25; refine (keepC3 (H3 _).out (by assumption)).mono ?_; rintro e w' ⟨rfl, _⟩)
            | (go_at_call 24; refine (keepC3 (H4 _).out (by assumption)).mono ?_; rintro e w' ⟨rfl, _⟩)
            | (go_at_call 26; refine (keepC3 (H5 _).out (by assumption)).mono ?_; rintro e w' ⟨rfl, _⟩))
        rename_i hS2
        cases D
        · go_wp2_with fail
          go_roundw
          case rel => exact ⟨m, k, by omega, rfl, ⟨_, rfl, by omega⟩, HK2.out, HT2.out, hBr.kept hS2.1 id, hu.trans hS2.1 (fun _ _ h => h)⟩
          case measure => simp [intOf]
        · go_wp2_with fail
          go_roundw
          case rel => exact ⟨m, X, by omega, rfl, ⟨_, rfl, by omega⟩, HK1.out, HT2.out, hBr.kept hS2.1 id, hu.trans hS2.1 (fun _ _ h => h)⟩
          case measure => simp [intOf]
  · have e0 : ups (n - t) r = 0 := by unfold ups; rw [if_pos (by omega)]
    rw [e0]
    clear h1 hc hr hb e0
    go_enter Try.func16, Try.ntmps16
    go_wp2_with fail
    refine ((H1 _).out).mono ?_
    rintro e w1 ⟨rfl, u1⟩
    obtain ⟨c0, c1, c2, z0, z1, z2⟩ := cells3 ((Blk.new w #[.int .u64 r, .int .u64 b, .int .u64 t] 24).kept u1 id)
    go_wp2_with fail
    go_ret2
    exact ⟨rfl, ((Upd.refl _ _).alloc _).trans u1 (fun _ _ h => h)⟩
end Go.Proofs.Ytgmiggnlhcldlaa.Bucket
