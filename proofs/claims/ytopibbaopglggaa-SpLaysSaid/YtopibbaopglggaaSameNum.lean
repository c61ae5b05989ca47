/- The reference's SameNumbers: are two rows of numbers the same. -/
import Derived.Test.YtopibbaopglggaaProg
import Derived.Test.YtopibbaopglggaaLaws
import Derived.Test.YtopibbaopglggaaMix
import Derived.Lib.Hide
namespace Go.Proofs.Ytopibbaopglggaa.Ref12n
open Go.RowKit Go.Proofs BigFrame
/-- The row of these numbers. -/
def us (l : List Int) : List Value := l.map (.int .u64)
theorem us_len (l : List Int) : (us l).length = l.length := by simp [us]
theorem us_at {l : List Int} {i : Nat} {x : Int} (h : l[i]? = some x) : (us l)[i]? = some (.int .u64 x) := by simp [us, h]
set_option maxHeartbeats 400000
theorem same_any (w : World) (va vb : Value) (la lb : List Int) (ha : RowAt w va (us la)) (hb : RowAt w vb (us lb)) (hl : la.length ≤ 1000000) (_hl2 : lb.length ≤ 1000000) :
    Calls Try.prog 66 #[va, vb] w fun e w' => e = .returned (.bool (decide (la = lb))) ∧ ∃ k, w' = w.drewN k := by
  obtain ⟨ada, ca, rfl, ha0, ha1⟩ := ha
  obtain ⟨adb, cb, rfl, hb0, hb1⟩ := hb
  rw [us_len, us_len]
  by_cases hne : la.length = lb.length
  · have hd : (((la.length : Int)) != lb.length) = false := by simp [hne]
    rw [hne] at hd hl ⊢
    obtain ⟨n, hn⟩ : ∃ n, lb.length = n := ⟨_, rfl⟩
    rw [hn] at hd hl ⊢
    have Hn := Lib.hid hn
    have Hne := Lib.hid hne
    clear hn hne
    go_enter Try.func66, Try.ntmps66
    go_wp2
    go_loopw [5] (fun i wr => ∃ k : Nat, k ≤ n ∧ i = .int .i64 k ∧ la.take k = lb.take k ∧ ∃ q, wr = w.drewN q) (fun i _ => n - (intOf i).toNat)
    case atStart => exact ⟨0, by omega, rfl, rfl, 0, rfl⟩
    case round =>
      obtain ⟨k, hk, rfl, heq, q, rfl⟩ := hrel
      have Heq := Lib.hid heq
      clear heq
      by_cases hlt : k < n
      · have h1 : k < la.length := by rw [Hne.out, Hn.out]; exact hlt
        have h2 : k < lb.length := by rw [Hn.out]; exact hlt
        obtain ⟨x, hx⟩ : ∃ x, la[k]? = some x := ⟨la[k], by simp⟩
        obtain ⟨y, hy⟩ : ∃ y, lb[k]? = some y := ⟨lb[k], by simp⟩
        clear h1 h2
        cases ada with
        | none => have := (ha0 rfl).1; have h3 := us_at hx; rw [this] at h3; simp at h3
        | some aa =>
        cases adb with
        | none => have := (hb0 rfl).1; have h3 := us_at hy; rw [this] at h3; simp at h3
        | some bb =>
        obtain ⟨hsa, ea⟩ := ha1 aa rfl k _ (us_at hx)
        obtain ⟨hsb, eb⟩ := hb1 bb rfl k _ (us_at hy)
        obtain ⟨ga, oa, sa⟩ := aa
        obtain ⟨gb, ob, sb⟩ := bb
        simp only at hsa hsb ea eb
        subst hsa hsb
        have Hx := Lib.hid hx
        have Hy := Lib.hid hy
        clear hx hy ha0 hb0 ha1 hb1
        have hI : (k : Int) < n := by omega
        by_cases hxy : x = y
        · have hb : (x != y) = false := by simp [hxy]
          have Hxy := Lib.hid hxy
          clear hxy
          go_wp2
          go_quiet (fail)
          go_wp2
          go_roundw
          case rel =>
            refine ⟨k + 1, by omega, by go_num, ?_, q + nq, rfl⟩
            rw [List.take_add_one, List.take_add_one, Heq.out, Hx.out, Hy.out, Hxy.out]
          case measure => simp [intOf]; omega
        · have hb : (x != y) = true := by simp [hxy]
          have hfin : decide (la = lb) = false := by
            simp only [decide_eq_false_iff_not]
            intro e; rw [e] at Hx; exact hxy (Option.some.inj (Hx.out.symm.trans Hy.out))
          have Hf := Lib.hid hfin
          clear hxy hfin
          go_wp2
          go_quiet (fail)
          go_wp2
          go_ret
          exact ⟨ret_bool Hf.out.symm, _, World.drewN_drewN _ _ _⟩
      · obtain rfl : k = n := by omega
        go_wp2
        go_ret
        refine ⟨ret_bool ?_, q, rfl⟩
        have h1 := Heq.out
        rw [List.take_of_length_le (by rw [Hne.out, Hn.out]; exact Nat.le_refl _), List.take_of_length_le (by rw [Hn.out]; exact Nat.le_refl _)] at h1
        simp [h1]
  · have hd : (((la.length : Int)) != lb.length) = true := by simp; omega
    have hfin : decide (la = lb) = false := by
      simp only [decide_eq_false_iff_not]; intro e; exact hne (by rw [e])
    rw [hfin]
    clear hne hfin
    generalize la.length = n1 at *
    generalize lb.length = n2 at *
    go_enter Try.func66, Try.ntmps66
    go_wp2
    go_ret
    exact ⟨rfl, 0, rfl⟩

end Go.Proofs.Ytopibbaopglggaa.Ref12n
