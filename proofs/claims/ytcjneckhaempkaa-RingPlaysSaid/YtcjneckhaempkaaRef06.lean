/- The reference's functions on rows of int: With, Rest, Last, Same. -/
import Derived.Test.YtcjneckhaempkaaProg
import Derived.Test.YtcjneckhaempkaaLaws
import Derived.Test.YtcjneckhaempkaaMix
import Derived.Lib.Hide
namespace Go.Proofs.Ytcjneckhaempkaa.Ref06
open Go.RowKit Go.Proofs BigFrame

/-- The row of these numbers. -/
def ints (l : List Int) : List Value := l.map (.int .i64)
theorem ints_len (l : List Int) : (ints l).length = l.length := by simp [ints]
theorem ints_at {l : List Int} {i : Nat} {x : Int} (h : l[i]? = some x) : (ints l)[i]? = some (.int .i64 x) := by simp [ints, h]

set_option maxHeartbeats 400000
theorem same_any (w : World) (va vb : Value) (la lb : List Int) (ha : RowAt w va (ints la)) (hb : RowAt w vb (ints lb)) (hl : la.length ≤ 1000000) (_hl2 : lb.length ≤ 1000000) :
    Calls Try.prog 12 #[va, vb] w fun e w' => e = .returned (.bool (decide (la = lb))) ∧ ∃ k, w' = w.drewN k := by
  obtain ⟨ada, ca, rfl, ha0, ha1⟩ := ha
  obtain ⟨adb, cb, rfl, hb0, hb1⟩ := hb
  rw [ints_len, ints_len]
  by_cases hne : la.length = lb.length
  · have hd : (((la.length : Int)) != lb.length) = false := by simp [hne]
    rw [hne] at hd hl ⊢
    obtain ⟨n, hn⟩ : ∃ n, lb.length = n := ⟨_, rfl⟩
    rw [hn] at hd hl ⊢
    have Hn := Lib.hid hn
    have Hne := Lib.hid hne
    clear hn hne
    go_enter Try.func12, Try.ntmps12
    go_wp2
    go_loopw [5] (fun i wr => ∃ k : Nat, k ≤ n ∧ i = .int .i64 k ∧ la.take k = lb.take k ∧ ∃ q, wr = w.drewN q) (fun i _ => n - (intOf i).toNat)
    case atStart => exact ⟨0, by omega, rfl, rfl, 0, rfl⟩
    case round =>
      obtain ⟨k, hk, rfl, heq, q, rfl⟩ := hrel
      have Heq := Lib.hid heq
      clear heq
      by_cases hlt : k < n
      · have h1 : k < la.length := by rw [Hne.out, Hn.out]; exact hlt
        have h2 : k < lb.length := by rw [Hn.out]; exact hlt
        obtain ⟨x, hx⟩ : ∃ x, la[k]? = some x := ⟨la[k], by simp⟩
        obtain ⟨y, hy⟩ : ∃ y, lb[k]? = some y := ⟨lb[k], by simp⟩
        clear h1 h2
        cases ada with
        | none => have := (ha0 rfl).1; have h3 := ints_at hx; rw [this] at h3; simp at h3
        | some aa =>
        cases adb with
        | none => have := (hb0 rfl).1; have h3 := ints_at hy; rw [this] at h3; simp at h3
        | some bb =>
        obtain ⟨hsa, ea⟩ := ha1 aa rfl k _ (ints_at hx)
        obtain ⟨hsb, eb⟩ := hb1 bb rfl k _ (ints_at hy)
        obtain ⟨ga, oa, sa⟩ := aa
        obtain ⟨gb, ob, sb⟩ := bb
        simp only at hsa hsb ea eb
        subst hsa hsb
        have Hx := Lib.hid hx
        have Hy := Lib.hid hy
        clear hx hy ha0 hb0 ha1 hb1
        have hI : (k : Int) < n := by omega
        by_cases hxy : x = y
        · have hb : (x != y) = false := by simp [hxy]
          have Hxy := Lib.hid hxy
          clear hxy
          go_wp2
          go_quiet (fail)
          go_wp2
          go_roundw
          case rel =>
            refine ⟨k + 1, by omega, by go_num, ?_, q + nq, rfl⟩
            rw [List.take_add_one, List.take_add_one, Heq.out, Hx.out, Hy.out, Hxy.out]
          case measure => simp [intOf]; omega
        · have hb : (x != y) = true := by simp [hxy]
          have hfin : decide (la = lb) = false := by
            simp only [decide_eq_false_iff_not]
            intro e; rw [e] at Hx; exact hxy (Option.some.inj (Hx.out.symm.trans Hy.out))
          have Hf := Lib.hid hfin
          clear hxy hfin
          go_wp2
          go_quiet (fail)
          go_wp2
          go_ret
          exact ⟨ret_bool Hf.out.symm, _, World.drewN_drewN _ _ _⟩
      · obtain rfl : k = n := by omega
        go_wp2
        go_ret
        refine ⟨ret_bool ?_, q, rfl⟩
        have h1 := Heq.out
        rw [List.take_of_length_le (by rw [Hne.out, Hn.out]; exact Nat.le_refl _), List.take_of_length_le (by rw [Hn.out]; exact Nat.le_refl _)] at h1
        simp [h1]
  · have hd : (((la.length : Int)) != lb.length) = true := by simp; omega
    have hfin : decide (la = lb) = false := by
      simp only [decide_eq_false_iff_not]; intro e; exact hne (by rw [e])
    rw [hfin]
    clear hne hfin
    generalize la.length = n1 at *
    generalize lb.length = n2 at *
    go_enter Try.func12, Try.ntmps12
    go_wp2
    go_ret
    exact ⟨rfl, 0, rfl⟩

theorem info : (Try.prog.info? 3).map (fun i => (i.zero, i.size, i.bytes)) = some (some (.int .i64 0), 1, 8) := by kernel_rfl

/-- A new row. -/
def NewRow (w w' : World) (e : Ending) (l : List Int) : Prop := (∃ v, e = .returned v ∧ w'.ownsRow w.heap.size 3 1 v l.length (ints l)) ∧ Upd Nowhere w w'

theorem with_any (w : World) (va : Value) (la : List Int) (x : Int) (ha : RowAt w va (ints la)) (hl : la.length ≤ 1000000) :
    Calls Try.prog 20 #[va, .int .i64 x] w fun e w' => NewRow w w' e (la ++ [x]) := by
  obtain ⟨i0, hi, hz0, hz1, hz2⟩ := info_parts info
  have HA := Lib.hid ha
  have hone : Hid (∀ u ∈ ints la, u.oneCell' = true) := by
    intro u hu
    simp only [ints, List.mem_map] at hu
    obtain ⟨y, _, rfl⟩ := hu
    rfl
  clear ha
  go_enter Try.func20, Try.ntmps20
  go_wp2_with (first
    | (at_builtin; refine wpList_appRow rfl _ _ 22 rfl w.heap.size 3 i0 (.int .i64 0) 8 Try.underlying22 hi hz0 hz1 hz2 rfl (by decide) _ 0 [] rfl (ownsRow_nil _ _ _ _) va (ints la) rfl HA.out hone.out (by simp [ints]; omega) (Nat.le_refl _) ?_; intro v1 w1 hown1 hu1 hn1; have hu1' : Upd Nowhere w w1 := hu1.mono (fun k _ hk => by cases hk); rw [Nat.zero_add, List.nil_append, ints_len] at hown1)
    | (at_builtin; refine wpList_push rfl _ _ 22 rfl w.heap.size 3 i0 (.int .i64 0) 1 8 Try.underlying22 hi hz0 hz1 hz2 rfl (by decide) (by decide) _ _ _ rfl (hown1.alloc _) w1.heap.size 1 [.int .i64 x] rfl rfl (new_cells _ #[_] _) (by simp [Value.oneCell']) (by omega) (by have := hu1'.size; simp; omega) ?_; intro v2 w2 hown2 hu2 hn2))
  go_ret
  refine ⟨⟨_, rfl, ?_⟩, ?_⟩
  · simpa [ints] using hown2
  · exact (hu1'.alloc _).trans hu2 (fun i hi2 hi3 => absurd (hown1.lt i hi3).1 (Nat.not_le.2 hi2))

theorem rest_any (w : World) (va : Value) (la : List Int) (n : Nat) (ha : RowAt w va (ints la)) (hl : la.length ≤ 1000000) (hn : n ≤ 1000000) :
    Calls Try.prog 18 #[va, .int .i64 n] w fun e w' => NewRow w w' e (la.drop n) := by
  obtain ⟨i0, hi, hz0, hz1, hz2⟩ := info_parts info
  have HA := Lib.hid ha
  rcases ha.form with ⟨ad, c, rfl, hnil⟩ | ⟨g, o, c, rfl, hc⟩
  · have hla : la = [] := by simpa [ints] using hnil
    subst hla
    clear ha
    have hz : decide ((n : Int) < 0) = false := by simp
    go_enter Try.func18, Try.ntmps18
    go_wp2
    go_loopw [5, 6] (fun o i wr => o = .slice none 0 0 ∧ i = .int .i64 n ∧ wr = w) (fun _ _ _ => 0)
    case atStart => exact ⟨rfl, rfl, rfl⟩
    case round =>
      obtain ⟨rfl, rfl, rfl⟩ := hrel
      go_wp2
      go_ret
      exact ⟨⟨_, rfl, by simpa [ints] using ownsRow_nil _ _ _ _⟩, Upd.refl _ _⟩
  · clear ha
    rw [ints_len]
    obtain ⟨L, hL⟩ : ∃ L, la.length = L := ⟨_, rfl⟩
    rw [hL] at hl ⊢
    have HL := Lib.hid hL
    have Hc := Lib.hid hc
    clear hL hc
    go_enter Try.func18, Try.ntmps18
    go_wp2
    go_loopw [5, 6] (fun ov i wr => ∃ k : Nat, n ≤ k ∧ (k ≤ L ∨ k = n) ∧ i = .int .i64 k ∧ wr.ownsRow w.heap.size 3 1 ov (k - n) (ints ((la.drop n).take (k - n))) ∧ Upd Nowhere w wr) (fun _ i _ => L - (intOf i).toNat)
    case atStart => exact ⟨n, Nat.le_refl _, .inr rfl, rfl, by simpa [ints] using ownsRow_nil _ _ _ _, Upd.refl _ _⟩
    case round =>
      obtain ⟨k, hk1, hk2, rfl, hown, hu⟩ := hrel
      by_cases hlt : k < L
      · obtain ⟨x, hx⟩ : ∃ x, la[k]? = some x := ⟨la[k]'(by rw [HL.out]; exact hlt), by simp⟩
        have hcell : w.cell? ⟨g, o + k, none⟩ = some (.int .i64 x) := Hc.out k _ (ints_at hx)
        have hcell' : wr.cell? ⟨g, o + k, none⟩ = some (.int .i64 x) := by
          have hg : g < w.heap.size := by
            rcases Nat.lt_or_ge g w.heap.size with h' | h'
            · exact h'
            · simp [World.cell?, Array.getElem?_eq_none h'] at hcell
          rw [hu.cell _ hg id]; exact hcell
        clear hcell
        have Hx := Lib.hid hx
        clear hx
        have hle : w.heap.size ≤ wr.heap.size := hu.size
        go_wp2_with (at_builtin; refine wpList_push rfl _ _ 22 rfl w.heap.size 3 i0 (.int .i64 0) 1 8 Try.underlying22 hi hz0 hz1 hz2 rfl (by decide) (by decide) _ _ _ rfl (hown.alloc _) wr.heap.size 1 [.int .i64 x] rfl rfl (new_cells _ #[_] _) (by simp [Value.oneCell']) (by omega) (by simp; omega) ?_; intro v2 w2 hown2 hu2 hn2)
        go_roundw
        case rel =>
          refine ⟨k + 1, by omega, .inl (by omega), by go_num, ?_, ?_⟩
          · have e1 : k + 1 - n = k - n + 1 := by omega
            have e2 : (la.drop n).take (k - n + 1) = (la.drop n).take (k - n) ++ [x] := by
              rw [List.take_add_one]
              have : (la.drop n)[k - n]? = some x := by rw [List.getElem?_drop, show n + (k - n) = k by omega]; exact Hx.out
              rw [this]; rfl
            rw [e1, e2]
            simpa [ints] using hown2
          · exact (hu.alloc _).trans hu2 (fun i hi2 hi3 => absurd (hown.lt i hi3).1 (Nat.not_le.2 hi2))
        case measure => simp [intOf]; omega
      · go_wp2
        go_ret
        refine ⟨⟨_, rfl, ?_⟩, hu⟩
        have e : (la.drop n).take (k - n) = la.drop n := List.take_of_length_le (by rw [List.length_drop, HL.out]; omega)
        have e2 : (la.drop n).length = k - n := by rw [List.length_drop, HL.out]; omega
        rw [e] at hown
        rw [e2]
        exact hown
end Go.Proofs.Ytcjneckhaempkaa.Ref06
