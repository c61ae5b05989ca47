/- CodelPlays. -/
import Derived.Test.YtgmiggnlhcldlaaCodelLives
import Derived.Test.YtgmiggnlhcldlaaOpen
namespace Go.Proofs.Ytgmiggnlhcldlaa.Codel
open Go.RowKit Go.Proofs BigFrame
open Wide (Gives)
set_option maxHeartbeats 2000000
set_option maxRecDepth 100000
theorem anew_le {I N K L now : Nat} (h : K ≤ 18446744073709551615) : anew I N K L now ≤ 18446744073709551615 := by unfold anew; split <;> omega
theorem stp_le {T I X F N K L now wt bh F' N' K' L' : Nat} {D D' g : Bool} (h : stp T I X F N K L D now wt bh = ((F', N', K', L', D'), g)) (hN : N ≤ 18446744073709551615) (hK : K ≤ 18446744073709551615) (hL : L ≤ 18446744073709551615) :
    N' ≤ 18446744073709551615 ∧ K' ≤ 18446744073709551615 ∧ L' ≤ 18446744073709551615 := by
  unfold stp at h
  have hA := @anew_le I N K L now hK
  split at h
  · generalize tm T I X F now wt bh = r at h
    obtain ⟨f, b⟩ := r
    cases b with
    | false => simp only [Prod.mk.injEq] at h; omega
    | true =>
      cases D with
      | false =>
        simp only [Prod.mk.injEq] at h
        obtain ⟨⟨_, h1, h2, h3, _⟩, _⟩ := h
        subst h1 h2 h3
        exact ⟨Nat.min_le_right _ _, hA, hA⟩
      | true =>
        simp only at h
        split at h
        · simp only [Prod.mk.injEq] at h; omega
        · simp only [Prod.mk.injEq] at h
          obtain ⟨⟨_, h1, h2, h3, _⟩, _⟩ := h
          subst h1 h2 h3
          exact ⟨Nat.min_le_right _ _, Nat.min_le_right _ _, hL⟩
  · simp only [Prod.mk.injEq] at h; omega
/-- A packet that leaves, as cells. -/
def act (a : Nat × Nat × Nat) : List Value := [.int .u64 a.1, .int .u64 a.2.1, .int .u64 a.2.2]
theorem act_at {l : List (Nat × Nat × Nat)} {i : Nat} {a : Nat × Nat × Nat} (h : l[i]? = some a) {j : Nat} {v : Value} (hj : (act a)[j]? = some v) : (l.flatMap act)[i * 3 + j]? = some v := by
  induction l generalizing i with
  | nil => simp at h
  | cons b l ih =>
    have hl : (act b).length = 3 := rfl
    rw [List.flatMap_cons]
    cases i with
    | zero =>
      simp only [List.getElem?_cons_zero, Option.some.injEq] at h
      subst h
      have hlt : j < 3 := by
        rcases Nat.lt_or_ge j 3 with h | h
        · exact h
        · rw [List.getElem?_eq_none (by rw [hl]; exact h)] at hj; cases hj
      rw [List.getElem?_append_left (by rw [hl]; omega), Nat.zero_mul, Nat.zero_add]
      exact hj
    | succ i =>
      rw [List.getElem?_append_right (by rw [hl]; omega), hl, show (i + 1) * 3 + j - 3 = i * 3 + j by omega]
      exact ih (by simpa using h)
theorem plays_ok (T I X F0 N0 K0 L0 : Nat) (D0 : Bool) (ad : Option Addr) (ca : Nat) (l : List (Nat × Nat × Nat)) (h1 : 1 ≤ I) (h2 : I ≤ 2147483648) (hN0 : N0 ≤ 18446744073709551615) (hK0 : K0 ≤ 18446744073709551615) (hL0 : L0 ≤ 18446744073709551615) (hl : l.length ≤ 300) (hb : ∀ (i : Nat) (a : Nat × Nat × Nat), l[i]? = some a → a.1 ≤ 18446744073709551615) (w : World)
    (ha0 : ad = none → l.length = 0) (ha : ∀ b, ad = some b → ∀ (j : Nat) (v : Value), (l.flatMap act)[j]? = some v → b.spot = none ∧ w.cell? ⟨b.block, b.off + j, none⟩ = some v) :
    Calls Try.prog 7 #[.agg #[.int .u64 T, .int .u64 I, .int .u64 X], .agg #[.int .u64 F0, .int .u64 N0, .int .u64 K0, .int .u64 L0, .bool D0], .slice ad l.length ca] w fun e w' => e = .returned (.bool true) ∧ Upd Nowhere w w' := by
  have HL := fun u => Lib.hid (lives u)
  have H1 := fun u => Lib.hid (may_ok T I X h1 h2 u)
  have H2 := fun u => Lib.hid (check_ok T I X h1 h2 u)
  have HS := fun F N K L D now wt bh u hN hK hL hn => Lib.hid (step_any T I X F N K L D now wt bh hN hK hL hn u)
  have HR := fun F N K L D now wt bh u hN hK hL hn => Lib.hid (rstep_any T I X F N K L D now wt bh hN hK hL hn u)
  obtain ⟨n, hn⟩ : ∃ n, l.length = n := ⟨_, rfl⟩
  rw [hn] at hl ⊢
  have t0 : decide ((n : Int) > 300) = false := decide_eq_false (by omega)
  have t1 : decide (300 < (n : Int)) = false := decide_eq_false (by omega)
  have Hn := Lib.hid hn
  have Hb := Lib.hid hb
  have Ha0 := Lib.hid ha0
  have Ha := Lib.hid ha
  clear hn hb ha0 ha h1 h2
  go_enter Try.func7, Try.ntmps7
  go_wp2_with fail
  refine ((H1 _).out).mono ?_
  rintro e w1 ⟨rfl, u1⟩
  have hB_c1 : Blk w1 (w.heap.size) #[.int .u64 T, .int .u64 I, .int .u64 X] 57 := ((Blk.new _ _ _).alloc _).kept u1 id
  have hB_s1 : Blk w1 (w.heap.size + 1) #[.int .u64 F0, .int .u64 N0, .int .u64 K0, .int .u64 L0, .bool D0] 59 := (Blk.new2 _ _ _ _).kept u1 id
  have hU1 : Upd Nowhere w w1 := (((Upd.refl _ _).alloc _).alloc _).trans u1 (fun _ _ h => h)
  obtain ⟨c_c0, c_c1, c_c2, z_c0, z_c1, z_c2⟩ := cells3 (hB_c1)
  obtain ⟨c_s0, c_s1, c_s2, c_s3, c_s4, z_s0, z_s1, z_s2, z_s3, z_s4⟩ := cells5 (hB_s1)
  have l_c1 := hB_c1.lt
  have l_s1 := hB_s1.lt
  go_wp2_with fail
  refine ((H2 _).out).mono ?_
  rintro e w2 ⟨rfl, u2⟩
  clear c_c0 c_c1 c_c2 z_c0 z_c1 z_c2
  clear c_s0 c_s1 c_s2 c_s3 c_s4 z_s0 z_s1 z_s2 z_s3 z_s4
  have hB_c2 : Blk w2 (w.heap.size) #[.int .u64 T, .int .u64 I, .int .u64 X] 57 := (hB_c1).kept u2 id
  have hB_s2 : Blk w2 (w.heap.size + 1) #[.int .u64 F0, .int .u64 N0, .int .u64 K0, .int .u64 L0, .bool D0] 59 := (hB_s1).kept u2 id
  have hU2 : Upd Nowhere w w2 := (hU1).trans u2 (fun _ _ h => h)
  clear u1
  obtain ⟨c_c0, c_c1, c_c2, z_c0, z_c1, z_c2⟩ := cells3 (hB_c2)
  obtain ⟨c_s0, c_s1, c_s2, c_s3, c_s4, z_s0, z_s1, z_s2, z_s3, z_s4⟩ := cells5 (hB_s2)
  have l_c2 := hB_c2.lt
  have l_s2 := hB_s2.lt
  clear l_c1 l_s1
  go_wp2_with fail
  go_loopw [9, 39] (fun nv i wr => ∃ (k now F N K L : Nat) (D : Bool), k ≤ n ∧ i = .int .i64 k ∧ nv = .int .u64 now ∧ now ≤ 18446744073709551615 ∧ N ≤ 18446744073709551615 ∧ K ≤ 18446744073709551615 ∧ L ≤ 18446744073709551615 ∧ Blk wr (w.heap.size) #[.int .u64 T, .int .u64 I, .int .u64 X] 57 ∧ Blk wr (w.heap.size + 1) #[.int .u64 F, .int .u64 N, .int .u64 K, .int .u64 L, .bool D] 59 ∧ Blk wr (w2.heap.size) #[.int .u64 F, .int .u64 N, .int .u64 K, .int .u64 L, .bool D] 64 ∧ Upd Nowhere w wr) (fun _ i _ => n - (intOf i).toNat)
  case atStart => exact ⟨0, 0, F0, N0, K0, L0, D0, by omega, rfl, rfl, by omega, hN0, hK0, hL0, hB_c2.alloc _, hB_s2.alloc _, Blk.new _ _ _, hU2.alloc _⟩
  case round =>
    obtain ⟨k, now, F, N, K, L, D, hk, rfl, rfl, hnow, hN, hK, hL, hB_c, hB_s, hB_t, hU⟩ := hrel
    clear hB_c2 hB_s2 hU2 c_c0 z_c0 c_c1 z_c1 c_c2 z_c2 c_s0 z_s0 c_s1 z_s1 c_s2 z_s2 c_s3 z_s3 c_s4 z_s4
    by_cases hlt : k < n
    · obtain ⟨⟨la, wt, bh⟩, hx⟩ : ∃ a, l[k]? = some a := ⟨l[k]'(by rw [Hn.out]; exact hlt), by simp⟩
      have hla : la ≤ 18446744073709551615 := Hb.out k _ hx
      obtain ⟨ga, oa, rfl⟩ : ∃ ga oa, ad = some ⟨ga, oa, none⟩ := by
        cases ad with
        | none => have := Ha0.out rfl; rw [Hn.out] at this; omega
        | some b =>
          have hs := (Ha.out b rfl _ _ (act_at hx (j := 0) rfl)).1
          obtain ⟨g, o, sp⟩ := b
          simp only at hs
          subst hs
          exact ⟨g, o, rfl⟩
      have q0 : w.cell? ⟨ga, oa + (k * 3 + 0), none⟩ = some (.int .u64 la) := (Ha.out _ rfl _ _ (act_at hx (j := 0) rfl)).2
      have q1 : w.cell? ⟨ga, oa + (k * 3 + 1), none⟩ = some (.int .u64 wt) := (Ha.out _ rfl _ _ (act_at hx (j := 1) rfl)).2
      have q2 : w.cell? ⟨ga, oa + (k * 3 + 2), none⟩ = some (.int .u64 bh) := (Ha.out _ rfl _ _ (act_at hx (j := 2) rfl)).2
      have hga := cell_lt q0
      have r0 : wr.cell? ⟨ga, oa + k * 3, none⟩ = some (.int .u64 la) := (hU.cell _ hga id).trans (by rw [← q0]; rfl)
      have r1 : wr.cell? ⟨ga, oa + k * 3 + 1, none⟩ = some (.int .u64 wt) := (hU.cell _ hga id).trans (by rw [← q1]; rfl)
      have r2 : wr.cell? ⟨ga, oa + k * 3 + 2, none⟩ = some (.int .u64 bh) := (hU.cell _ hga id).trans (by rw [← q2]; rfl)
      clear hx q0 q1 q2
      have hI : (k : Int) < n := by omega
      have HA := fun u => Lib.hid (Sat.ref_add now la hnow hla u)
      have hnow' : min (now + la) 18446744073709551615 ≤ 18446744073709551615 := Nat.min_le_right _ _
      generalize min (now + la) 18446744073709551615 = now' at *
      have HS1 := fun u => HS F N K L D now' wt bh u hN hK hL hnow'
      have HR1 := fun u => HR F N K L D now' wt bh u hN hK hL hnow'
      obtain ⟨⟨⟨F', N', K', L', D'⟩, g⟩, hr⟩ : ∃ r, stp T I X F N K L D now' wt bh = r := ⟨_, rfl⟩
      obtain ⟨bN, bK, bL⟩ := stp_le hr hN hK hL
      rw [hr] at HS1 HR1
      simp only [out] at HS1 HR1
      clear hr hN hK hL HS HR hla hnow
      obtain ⟨c_c0, c_c1, c_c2, z_c0, z_c1, z_c2⟩ := cells3 (hB_c)
      obtain ⟨c_s0, c_s1, c_s2, c_s3, c_s4, z_s0, z_s1, z_s2, z_s3, z_s4⟩ := cells5 (hB_s)
      obtain ⟨c_t0, c_t1, c_t2, c_t3, c_t4, z_t0, z_t1, z_t2, z_t3, z_t4⟩ := cells5 (hB_t)
      go_wp2_with fail
      refine ((HA _).out).mono ?_
      rintro e w11 ⟨rfl, u11⟩
      clear c_c0 c_c1 c_c2 z_c0 z_c1 z_c2
      clear c_s0 c_s1 c_s2 c_s3 c_s4 z_s0 z_s1 z_s2 z_s3 z_s4
      clear c_t0 c_t1 c_t2 c_t3 c_t4 z_t0 z_t1 z_t2 z_t3 z_t4
      have hB_c11 : Blk w11 (w.heap.size) #[.int .u64 T, .int .u64 I, .int .u64 X] 57 := (hB_c.alloc _).kept u11 id
      have hB_s11 : Blk w11 (w.heap.size + 1) #[.int .u64 F, .int .u64 N, .int .u64 K, .int .u64 L, .bool D] 59 := (hB_s.alloc _).kept u11 id
      have hB_t11 : Blk w11 (w2.heap.size) #[.int .u64 F, .int .u64 N, .int .u64 K, .int .u64 L, .bool D] 64 := (hB_t.alloc _).kept u11 id
      have hB_a11 : Blk w11 (wr.heap.size) #[.int .u64 la, .int .u64 wt, .int .u64 bh] 66 := (Blk.new _ _ _).kept u11 id
      have hU11 : Upd Nowhere w w11 := (hU.alloc _).trans u11 (fun _ _ h => h)
      obtain ⟨c_c0, c_c1, c_c2, z_c0, z_c1, z_c2⟩ := cells3 (hB_c11)
      obtain ⟨c_s0, c_s1, c_s2, c_s3, c_s4, z_s0, z_s1, z_s2, z_s3, z_s4⟩ := cells5 (hB_s11)
      obtain ⟨c_t0, c_t1, c_t2, c_t3, c_t4, z_t0, z_t1, z_t2, z_t3, z_t4⟩ := cells5 (hB_t11)
      obtain ⟨c_a0, c_a1, c_a2, z_a0, z_a1, z_a2⟩ := cells3 (hB_a11)
      have l_c11 := hB_c11.lt
      have l_s11 := hB_s11.lt
      have l_t11 := hB_t11.lt
      have l_a11 := hB_a11.lt
      go_wp2_with fail
      refine ((HS1 _).out).mono ?_
      rintro e w12 ⟨rfl, u12⟩
      clear c_c0 c_c1 c_c2 z_c0 z_c1 z_c2
      clear c_s0 c_s1 c_s2 c_s3 c_s4 z_s0 z_s1 z_s2 z_s3 z_s4
      clear c_t0 c_t1 c_t2 c_t3 c_t4 z_t0 z_t1 z_t2 z_t3 z_t4
      clear c_a0 c_a1 c_a2 z_a0 z_a1 z_a2
      have hB_c12 : Blk w12 (w.heap.size) #[.int .u64 T, .int .u64 I, .int .u64 X] 57 := (hB_c11).kept u12 id
      have hB_s12 : Blk w12 (w.heap.size + 1) #[.int .u64 F, .int .u64 N, .int .u64 K, .int .u64 L, .bool D] 59 := (hB_s11).kept u12 id
      have hB_t12 : Blk w12 (w2.heap.size) #[.int .u64 F, .int .u64 N, .int .u64 K, .int .u64 L, .bool D] 64 := (hB_t11).kept u12 id
      have hB_a12 : Blk w12 (wr.heap.size) #[.int .u64 la, .int .u64 wt, .int .u64 bh] 66 := (hB_a11).kept u12 id
      have hU12 : Upd Nowhere w w12 := (hU11).trans u12 (fun _ _ h => h)
      clear u11
      obtain ⟨c_c0, c_c1, c_c2, z_c0, z_c1, z_c2⟩ := cells3 (hB_c12)
      obtain ⟨c_s0, c_s1, c_s2, c_s3, c_s4, z_s0, z_s1, z_s2, z_s3, z_s4⟩ := cells5 (hB_s12)
      obtain ⟨c_t0, c_t1, c_t2, c_t3, c_t4, z_t0, z_t1, z_t2, z_t3, z_t4⟩ := cells5 (hB_t12)
      obtain ⟨c_a0, c_a1, c_a2, z_a0, z_a1, z_a2⟩ := cells3 (hB_a12)
      have l_c12 := hB_c12.lt
      have l_s12 := hB_s12.lt
      have l_t12 := hB_t12.lt
      have l_a12 := hB_a12.lt
      go_wp2_with fail
      refine ((HR1 _).out).mono ?_
      rintro e w13 ⟨rfl, u13⟩
      clear c_c0 c_c1 c_c2 z_c0 z_c1 z_c2
      clear c_s0 c_s1 c_s2 c_s3 c_s4 z_s0 z_s1 z_s2 z_s3 z_s4
      clear c_t0 c_t1 c_t2 c_t3 c_t4 z_t0 z_t1 z_t2 z_t3 z_t4
      clear c_a0 c_a1 c_a2 z_a0 z_a1 z_a2
      have hB_c13 : Blk w13 (w.heap.size) #[.int .u64 T, .int .u64 I, .int .u64 X] 57 := (hB_c12.alloc _).kept u13 id
      have hB_s13 : Blk w13 (w.heap.size + 1) #[.int .u64 F, .int .u64 N, .int .u64 K, .int .u64 L, .bool D] 59 := (hB_s12.alloc _).kept u13 id
      have hB_t13 : Blk w13 (w2.heap.size) #[.int .u64 F, .int .u64 N, .int .u64 K, .int .u64 L, .bool D] 64 := (hB_t12.alloc _).kept u13 id
      have hB_a13 : Blk w13 (wr.heap.size) #[.int .u64 la, .int .u64 wt, .int .u64 bh] 66 := (hB_a12.alloc _).kept u13 id
      have hB_n13 : Blk w13 (w12.heap.size) #[.int .u64 F', .int .u64 N', .int .u64 K', .int .u64 L', .bool D'] 64 := (Blk.new _ _ _).kept u13 id
      have hU13 : Upd Nowhere w w13 := (hU12.alloc _).trans u13 (fun _ _ h => h)
      clear u12
      obtain ⟨c_c0, c_c1, c_c2, z_c0, z_c1, z_c2⟩ := cells3 (hB_c13)
      obtain ⟨c_s0, c_s1, c_s2, c_s3, c_s4, z_s0, z_s1, z_s2, z_s3, z_s4⟩ := cells5 (hB_s13)
      obtain ⟨c_t0, c_t1, c_t2, c_t3, c_t4, z_t0, z_t1, z_t2, z_t3, z_t4⟩ := cells5 (hB_t13)
      obtain ⟨c_a0, c_a1, c_a2, z_a0, z_a1, z_a2⟩ := cells3 (hB_a13)
      obtain ⟨c_n0, c_n1, c_n2, c_n3, c_n4, z_n0, z_n1, z_n2, z_n3, z_n4⟩ := cells5 (hB_n13)
      have l_c13 := hB_c13.lt
      have l_s13 := hB_s13.lt
      have l_t13 := hB_t13.lt
      have l_a13 := hB_a13.lt
      have l_n13 := hB_n13.lt
      go_wp2_with fail
      clear c_c0 c_c1 c_c2 z_c0 z_c1 z_c2
      clear c_s0 c_s1 c_s2 c_s3 c_s4 z_s0 z_s1 z_s2 z_s3 z_s4
      clear c_t0 c_t1 c_t2 c_t3 c_t4 z_t0 z_t1 z_t2 z_t3 z_t4
      clear c_a0 c_a1 c_a2 z_a0 z_a1 z_a2
      clear c_n0 c_n1 c_n2 c_n3 c_n4 z_n0 z_n1 z_n2 z_n3 z_n4
      have hB_c14 : Blk ((w13.alloc (.cells #[.int .u64 F', .int .u64 N', .int .u64 K', .int .u64 L', .bool D'] 59))) (w.heap.size) #[.int .u64 T, .int .u64 I, .int .u64 X] 57 := hB_c13.alloc _
      have hB_s14 : Blk ((w13.alloc (.cells #[.int .u64 F', .int .u64 N', .int .u64 K', .int .u64 L', .bool D'] 59))) (w.heap.size + 1) #[.int .u64 F, .int .u64 N, .int .u64 K, .int .u64 L, .bool D] 59 := hB_s13.alloc _
      have hB_t14 : Blk ((w13.alloc (.cells #[.int .u64 F', .int .u64 N', .int .u64 K', .int .u64 L', .bool D'] 59))) (w2.heap.size) #[.int .u64 F, .int .u64 N, .int .u64 K, .int .u64 L, .bool D] 64 := hB_t13.alloc _
      have hB_a14 : Blk ((w13.alloc (.cells #[.int .u64 F', .int .u64 N', .int .u64 K', .int .u64 L', .bool D'] 59))) (wr.heap.size) #[.int .u64 la, .int .u64 wt, .int .u64 bh] 66 := hB_a13.alloc _
      have hB_n14 : Blk ((w13.alloc (.cells #[.int .u64 F', .int .u64 N', .int .u64 K', .int .u64 L', .bool D'] 59))) (w12.heap.size) #[.int .u64 F', .int .u64 N', .int .u64 K', .int .u64 L', .bool D'] 64 := hB_n13.alloc _
      have hB_m14 : Blk ((w13.alloc (.cells #[.int .u64 F', .int .u64 N', .int .u64 K', .int .u64 L', .bool D'] 59))) (w13.heap.size) #[.int .u64 F', .int .u64 N', .int .u64 K', .int .u64 L', .bool D'] 59 := Blk.new _ _ _
      have hU14 : Upd Nowhere w ((w13.alloc (.cells #[.int .u64 F', .int .u64 N', .int .u64 K', .int .u64 L', .bool D'] 59))) := hU13.alloc _
      generalize (w13.alloc (.cells #[.int .u64 F', .int .u64 N', .int .u64 K', .int .u64 L', .bool D'] 59)) = w14 at *
      clear u13
      obtain ⟨c_c0, c_c1, c_c2, z_c0, z_c1, z_c2⟩ := cells3 (hB_c14)
      obtain ⟨c_s0, c_s1, c_s2, c_s3, c_s4, z_s0, z_s1, z_s2, z_s3, z_s4⟩ := cells5 (hB_s14)
      obtain ⟨c_t0, c_t1, c_t2, c_t3, c_t4, z_t0, z_t1, z_t2, z_t3, z_t4⟩ := cells5 (hB_t14)
      obtain ⟨c_a0, c_a1, c_a2, z_a0, z_a1, z_a2⟩ := cells3 (hB_a14)
      obtain ⟨c_n0, c_n1, c_n2, c_n3, c_n4, z_n0, z_n1, z_n2, z_n3, z_n4⟩ := cells5 (hB_n14)
      obtain ⟨c_m0, c_m1, c_m2, c_m3, c_m4, z_m0, z_m1, z_m2, z_m3, z_m4⟩ := cells5 (hB_m14)
      have l_c14 := hB_c14.lt
      have l_s14 := hB_s14.lt
      have l_t14 := hB_t14.lt
      have l_a14 := hB_a14.lt
      have l_n14 := hB_n14.lt
      have l_m14 := hB_m14.lt
      have ne_tn : ¬ w2.heap.size = w12.heap.size := by omega
      have ne_nt : ¬ w12.heap.size = w2.heap.size := by omega
      have ne_tm : ¬ w2.heap.size = w13.heap.size := by omega
      have ne_mt : ¬ w13.heap.size = w2.heap.size := by omega
      have ne_sn : ¬ w.heap.size + 1 = w12.heap.size := by omega
      have ne_ns : ¬ w12.heap.size = w.heap.size + 1 := by omega
      have ne_sm : ¬ w.heap.size + 1 = w13.heap.size := by omega
      have ne_ms : ¬ w13.heap.size = w.heap.size + 1 := by omega
      have ne_ts : ¬ w2.heap.size = w.heap.size + 1 := by omega
      have ne_st : ¬ w.heap.size + 1 = w2.heap.size := by omega
      go_region
      all_goals
        go_wp2_with fail
        go_roundw
        case rel =>
          refine ⟨k + 1, now', F', N', K', L', D', by omega, by go_num, rfl, hnow', bN, bK, bL, ?_, ?_, ?_, ?_⟩
          · exact (by repeat (first | with_reducible exact hB_c14 | with_reducible refine Blk.drew ?_ | with_reducible apply Blk.put5 | with_reducible refine Blk.far5 ?_ (by first | (simp; done) | omega) _ _ _ _ _))
          · exact (by repeat (first | with_reducible exact hB_s14 | with_reducible refine Blk.drew ?_ | with_reducible apply Blk.put5 | with_reducible refine Blk.far5 ?_ (by first | (simp; done) | omega) _ _ _ _ _))
          · exact (by repeat (first | with_reducible exact hB_t14 | with_reducible refine Blk.drew ?_ | with_reducible apply Blk.put5 | with_reducible refine Blk.far5 ?_ (by first | (simp; done) | omega) _ _ _ _ _))
          · exact (by repeat (first | with_reducible exact hU14 | with_reducible refine Upd.drew ?_ | with_reducible refine Upd.setNew ?_ (by first | (simp; done) | (dsimp only; omega)) _))
        case measure => simp [intOf]; omega
    · obtain rfl : k = n := by omega
      go_wp2_with fail
      refine ((HL _).out).mono ?_
      rintro e w9 ⟨rfl, u9⟩
      go_wp2_with fail
      go_ret
      exact ⟨rfl, hU.trans u9 (fun _ _ h => h)⟩
end Go.Proofs.Ytgmiggnlhcldlaa.Codel
