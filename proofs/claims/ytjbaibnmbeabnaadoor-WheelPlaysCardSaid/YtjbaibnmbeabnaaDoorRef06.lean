/- The reference's functions on rows of int: With, Rest, Last, Same. -/
import Derived.Test.YtjbaibnmbeabnaaDoorProg
import Derived.Test.YtjbaibnmbeabnaaDoorLaws
import Derived.Test.YtjbaibnmbeabnaaDoorMix
import Derived.Lib.Hide
namespace Go.Proofs.YtjbaibnmbeabnaaDoor.Ref06
open Go.RowKit Go.Proofs BigFrame

/-- The row of these numbers. -/
def ints (l : List Int) : List Value := l.map (.int .i64)
theorem ints_len (l : List Int) : (ints l).length = l.length := by simp [ints]
theorem ints_at {l : List Int} {i : Nat} {x : Int} (h : l[i]? = some x) : (ints l)[i]? = some (.int .i64 x) := by simp [ints, h]

set_option maxHeartbeats 400000
theorem same_any (w : World) (va vb : Value) (la lb : List Int) (ha : RowAt w va (ints la)) (hb : RowAt w vb (ints lb)) (hl : la.length ≤ 1000000) (_hl2 : lb.length ≤ 1000000) :
    Calls Tryd.prog 23 #[va, vb] w fun e w' => e = .returned (.bool (decide (la = lb))) ∧ ∃ k, w' = w.drewN k := by
  obtain ⟨ada, ca, rfl, ha0, ha1⟩ := ha
  obtain ⟨adb, cb, rfl, hb0, hb1⟩ := hb
  rw [ints_len, ints_len]
  by_cases hne : la.length = lb.length
  · have hd : (((la.length : Int)) != lb.length) = false := by simp [hne]
    rw [hne] at hd hl ⊢
    obtain ⟨n, hn⟩ : ∃ n, lb.length = n := ⟨_, rfl⟩
    rw [hn] at hd hl ⊢
    have Hn := Lib.hid hn
    have Hne := Lib.hid hne
    clear hn hne
    go_enter Tryd.func23, Tryd.ntmps23
    go_wp2
    go_loopw [5] (fun i wr => ∃ k : Nat, k ≤ n ∧ i = .int .i64 k ∧ la.take k = lb.take k ∧ ∃ q, wr = w.drewN q) (fun i _ => n - (intOf i).toNat)
    case atStart => exact ⟨0, by omega, rfl, rfl, 0, rfl⟩
    case round =>
      obtain ⟨k, hk, rfl, heq, q, rfl⟩ := hrel
      have Heq := Lib.hid heq
      clear heq
      by_cases hlt : k < n
      · have h1 : k < la.length := by rw [Hne.out, Hn.out]; exact hlt
        have h2 : k < lb.length := by rw [Hn.out]; exact hlt
        obtain ⟨x, hx⟩ : ∃ x, la[k]? = some x := ⟨la[k], by simp⟩
        obtain ⟨y, hy⟩ : ∃ y, lb[k]? = some y := ⟨lb[k], by simp⟩
        clear h1 h2
        cases ada with
        | none => have := (ha0 rfl).1; have h3 := ints_at hx; rw [this] at h3; simp at h3
        | some aa =>
        cases adb with
        | none => have := (hb0 rfl).1; have h3 := ints_at hy; rw [this] at h3; simp at h3
        | some bb =>
        obtain ⟨hsa, ea⟩ := ha1 aa rfl k _ (ints_at hx)
        obtain ⟨hsb, eb⟩ := hb1 bb rfl k _ (ints_at hy)
        obtain ⟨ga, oa, sa⟩ := aa
        obtain ⟨gb, ob, sb⟩ := bb
        simp only at hsa hsb ea eb
        subst hsa hsb
        have Hx := Lib.hid hx
        have Hy := Lib.hid hy
        clear hx hy ha0 hb0 ha1 hb1
        have hI : (k : Int) < n := by omega
        by_cases hxy : x = y
        · have hb : (x != y) = false := by simp [hxy]
          have Hxy := Lib.hid hxy
          clear hxy
          go_wp2
          go_quiet (fail)
          go_wp2
          go_roundw
          case rel =>
            refine ⟨k + 1, by omega, by go_num, ?_, q + nq, rfl⟩
            rw [List.take_add_one, List.take_add_one, Heq.out, Hx.out, Hy.out, Hxy.out]
          case measure => simp [intOf]; omega
        · have hb : (x != y) = true := by simp [hxy]
          have hfin : decide (la = lb) = false := by
            simp only [decide_eq_false_iff_not]
            intro e; rw [e] at Hx; exact hxy (Option.some.inj (Hx.out.symm.trans Hy.out))
          have Hf := Lib.hid hfin
          clear hxy hfin
          go_wp2
          go_quiet (fail)
          go_wp2
          go_ret
          exact ⟨ret_bool Hf.out.symm, _, World.drewN_drewN _ _ _⟩
      · obtain rfl : k = n := by omega
        go_wp2
        go_ret
        refine ⟨ret_bool ?_, q, rfl⟩
        have h1 := Heq.out
        rw [List.take_of_length_le (by rw [Hne.out, Hn.out]; exact Nat.le_refl _), List.take_of_length_le (by rw [Hn.out]; exact Nat.le_refl _)] at h1
        simp [h1]
  · have hd : (((la.length : Int)) != lb.length) = true := by simp; omega
    have hfin : decide (la = lb) = false := by
      simp only [decide_eq_false_iff_not]; intro e; exact hne (by rw [e])
    rw [hfin]
    clear hne hfin
    generalize la.length = n1 at *
    generalize lb.length = n2 at *
    go_enter Tryd.func23, Tryd.ntmps23
    go_wp2
    go_ret
    exact ⟨rfl, 0, rfl⟩

theorem info : (Tryd.prog.info? 3).map (fun i => (i.zero, i.size, i.bytes)) = some (some (.int .i64 0), 1, 8) := by kernel_rfl

/-- A new row. -/
def NewRow (w w' : World) (e : Ending) (l : List Int) : Prop := (∃ v, e = .returned v ∧ w'.ownsRow w.heap.size 3 1 v l.length (ints l)) ∧ Upd Nowhere w w'

end Go.Proofs.YtjbaibnmbeabnaaDoor.Ref06
