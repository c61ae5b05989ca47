/- AifoRises. -/
import Derived.Test.YtgppbclgabdkoaaAifoLives
import Derived.Test.YtgppbclgabdkoaaOpen
import Derived.Test.YtgppbclgabdkoaaMix
namespace Go.Proofs.Ytgppbclgabdkoaa.Aifo
open Go.RowKit Go.Proofs BigFrame
open RingU (TR TE)
set_option maxHeartbeats 4000000
set_option maxRecDepth 1000000
/-- What New tells. -/
def newOf (room most : Int) (num den : Nat) : Int := if room < 1 ∨ 4096 < room ∨ most < 1 ∨ 1024 < most then 25 else if den < 1 ∨ 65536 < den ∨ den ≤ num then 6 else 0
theorem new_fail (w : World) (room most : Int) (num den : Nat) (f : Int) (hf : newOf room most num den = f) (h0 : f ≠ 0) :
    Calls Try.prog 6 #[.int .i64 room, .int .i64 most, .int .u64 num, .int .u64 den] w fun e w' => e = .returned (.tuple #[.pointer none, .int .i64 f]) ∧ w = w' := by
  unfold newOf at hf
  split at hf
  · rename_i h
    subst hf
    exact new_caps w room most num den h
  · rename_i h
    split at hf
    · rename_i h2
      subst hf
      exact new_arg w room most num den (by omega) (by omega) (by omega) (by omega) h2
    · exact absurd hf.symm h0
theorem newOf_zero {room most : Int} {num den : Nat} (h : newOf room most num den = 0) : ∃ r m : Nat, room = r ∧ most = m ∧ 1 ≤ r ∧ r ≤ 4096 ∧ 1 ≤ m ∧ m ≤ 1024 ∧ num < den ∧ den ≤ 65536 := by
  unfold newOf at h
  split at h
  · omega
  · split at h
    · omega
    · exact ⟨room.toNat, most.toNat, by omega, by omega, by omega, by omega, by omega, by omega, by omega, by omega⟩
abbrev TC : TypeId := 24
abbrev T2 : TypeId := 41
theorem rises_fail (room most : Int) (num den a b : Nat) (ad : Option Addr) (n ca : Nat) (w : World) (h : newOf room most num den ≠ 0 ∨ 200 < n) (hb : newOf room most num den = 0 → 200 < n) :
    Calls Try.prog 4 #[.agg #[.int .i64 room, .int .i64 most, .int .u64 num, .int .u64 den], .slice ad n ca, .agg #[.int .u64 a, .int .u64 b]] w fun e w' => e = .returned (.bool true) ∧ Upd Nowhere w w' := by
  have HL := fun u => Lib.hid (lives u)
  obtain ⟨f, hf⟩ : ∃ f, newOf room most num den = f := ⟨_, rfl⟩
  rw [hf] at h hb
  by_cases h0 : f = 0
  · subst h0
    obtain ⟨r, m, rfl, rfl, x1, x2, x3, x4, x5, x6⟩ := newOf_zero hf
    have hn := hb rfl
    have t0 : decide ((n : Int) > 200) = true := decide_eq_true (by omega)
    have t1 : decide (200 < n) = true := decide_eq_true (by omega)
    have HN := fun u => Lib.hid (new_ok u r m num den x1 x2 x3 x4 x5 x6)
    clear hf h hb
    go_enter Try.func4, Try.ntmps4
    go_wp2_with fail
    go_quiet (fail)
    have hU1 : Upd Nowhere w (((w.alloc (.cells #[.int .i64 r, .int .i64 m, .int .u64 num, .int .u64 den] TC)).alloc (.cells #[.int .u64 a, .int .u64 b] T2)).drewN nq) := (((Upd.refl _ _).alloc _).alloc _).drewN nq
    go_wp2_with fail
    refine (HN _).out.mono ?_
    rintro e w1 ⟨b1, rfl, _, u1⟩
    have U1 := Lib.hid (hU1.trans u1 (fun _ _ h => h))
    clear hU1 u1
    go_wp2_with fail
    refine ((HL _).out).mono ?_
    rintro e w2 ⟨rfl, u2⟩
    go_wp2_with fail
    go_ret
    exact ⟨rfl, U1.out.trans u2 (fun _ _ h => h)⟩
  · have HN := fun u => Lib.hid (new_fail u room most num den f hf h0)
    have t0 : (f != 0) = true := by simp [h0]
    clear hf h hb
    go_enter Try.func4, Try.ntmps4
    go_wp2_with fail
    go_quiet (fail)
    have hU1 : Upd Nowhere w (((w.alloc (.cells #[.int .i64 room, .int .i64 most, .int .u64 num, .int .u64 den] TC)).alloc (.cells #[.int .u64 a, .int .u64 b] T2)).drewN nq) := (((Upd.refl _ _).alloc _).alloc _).drewN nq
    go_wp2_with fail
    refine (HN _).out.mono ?_
    rintro e w1 ⟨rfl, rfl⟩
    go_wp2_with fail
    refine ((HL _).out).mono ?_
    rintro e w2 ⟨rfl, u2⟩
    go_wp2_with fail
    go_ret
    exact ⟨rfl, hU1.trans u2 (fun _ _ h => h)⟩
theorem mayB_mono {room wait num den : Nat} {win : List Int} {lo hi : Nat} (h : lo ≤ hi) (hm : mayB room wait num den win hi = true) : mayB room wait num den win lo = true := by
  obtain ⟨h1, h2⟩ := of_decide_eq_true hm
  refine decide_eq_true ⟨h1, Nat.le_trans ?_ h2⟩
  exact Nat.mul_le_mul_right _ (Nat.mul_le_mul_right _ (List.countP_mono_left (fun x _ hx => by simp at hx ⊢; omega)))
theorem mayB_least {room wait num den : Nat} {win : List Int} {r : Nat} (h : ∀ x ∈ win, (r : Int) ≤ x) : mayB room wait num den win r = decide (wait < room) := by
  have e0 : win.countP (· < (r : Int)) = 0 := by
    rw [List.countP_eq_zero]; intro x hx; have := h x hx; simp; omega
  unfold mayB
  rw [e0, Nat.zero_mul, Nat.zero_mul]
  exact decide_eq_decide.2 ⟨fun h => h.1, fun h => ⟨h, Nat.zero_le _⟩⟩
theorem mayB_part {room wait num den : Nat} {win : List Int} {r : Nat} (h : wait < room) (hd : num < den) (hp : wait * den ≤ num * room) : mayB room wait num den win r = true := by
  refine decide_eq_true ⟨h, ?_⟩
  have h1 : win.countP (· < (r : Int)) ≤ win.length := List.countP_le_length
  obtain ⟨D, rfl⟩ : ∃ D, den = num + D := ⟨den - num, by omega⟩
  obtain ⟨R, rfl⟩ : ∃ R, room = wait + R := ⟨room - wait, by omega⟩
  have e1 : num + D - num = D := by omega
  have e2 : wait + R - wait = R := by omega
  rw [e1, e2]
  have h2 : D * (wait + R) ≤ R * (num + D) := by
    have x1 : wait * (num + D) = wait * num + wait * D := Nat.mul_add _ _ _
    have x2 : num * (wait + R) = num * wait + num * R := Nat.mul_add _ _ _
    have x3 : D * (wait + R) = D * wait + D * R := Nat.mul_add _ _ _
    have x4 : R * (num + D) = R * num + R * D := Nat.mul_add _ _ _
    have y1 : wait * num = num * wait := Nat.mul_comm _ _
    have y2 : wait * D = D * wait := Nat.mul_comm _ _
    have y3 : D * R = R * D := Nat.mul_comm _ _
    have y4 : num * R = R * num := Nat.mul_comm _ _
    omega
  calc win.countP (· < (r : Int)) * D * (wait + R) = win.countP (· < (r : Int)) * (D * (wait + R)) := Nat.mul_assoc _ _ _
    _ ≤ win.length * (R * (num + D)) := Nat.mul_le_mul h1 h2
    _ = R * (num + D) * win.length := Nat.mul_comm _ _
theorem rises_walk (room most num den a b : Nat) (x1 : 1 ≤ room) (x2 : room ≤ 4096) (x3 : 1 ≤ most) (x4 : most ≤ 1024) (x5 : num < den) (x6 : den ≤ 65536) (ha : a ≤ 18446744073709551615) (hb : b ≤ 18446744073709551615) (ad : Option Addr) (ca : Nat) (l : List Nat) (hn : l.length ≤ 200) (hl : ∀ x ∈ l, x ≤ 18446744073709551615) (w : World)
    (h0 : ad = none → l = []) (hc : ∀ g, ad = some g → ∀ j x, l[j]? = some x → g.spot = none ∧ w.cell? ⟨g.block, g.off + j, none⟩ = some (.int .u64 (x : Nat))) :
    Calls Try.prog 4 #[.agg #[.int .i64 room, .int .i64 most, .int .u64 num, .int .u64 den], .slice ad l.length ca, .agg #[.int .u64 a, .int .u64 b]] w fun e w' => e = .returned (.bool true) ∧ Upd Nowhere w w' := by
  have HL := fun u => Lib.hid (lives u)
  have HN := fun u => Lib.hid (new_ok u room most num den x1 x2 x3 x4 x5 x6)
  obtain ⟨n, hn'⟩ : ∃ n, l.length = n := ⟨_, rfl⟩
  rw [hn'] at hn ⊢
  have t0 : decide ((n : Int) > 200) = false := decide_eq_false (by omega)
  have t1 : decide (200 < n) = false := decide_eq_false (by omega)
  have HN' := Lib.hid hn'
  have H0 := Lib.hid h0
  have HC := Lib.hid hc
  have HB := Lib.hid hl
  clear hn' h0 hc hl
  go_enter Try.func4, Try.ntmps4
  go_wp2_with fail
  go_quiet (fail)
  have hU1 : Upd Nowhere w (((w.alloc (.cells #[.int .i64 room, .int .i64 most, .int .u64 num, .int .u64 den] TC)).alloc (.cells #[.int .u64 a, .int .u64 b] T2)).drewN nq) := (((Upd.refl _ _).alloc _).alloc _).drewN nq
  have hB1 : Blk (((w.alloc (.cells #[.int .i64 room, .int .i64 most, .int .u64 num, .int .u64 den] TC)).alloc (.cells #[.int .u64 a, .int .u64 b] T2)).drewN nq) w.heap.size #[.int .i64 room, .int .i64 most, .int .u64 num, .int .u64 den] TC := ((Blk.new _ _ _).alloc _).drewN nq
  have HU1 := Lib.hid hU1
  go_wp2_with fail
  refine (HN _).out.mono ?_
  rintro e w1 ⟨b1, rfl, h1, u1⟩
  have H1 := Lib.hid h1
  have U1 := Lib.hid (hU1.trans u1 (fun _ _ h => h))
  have B1 := Lib.hid (hB1.kept u1 id)
  have hltB := hB1.lt
  generalize ((w.alloc _).alloc _).drewN nq = wB at *
  clear hU1 hB1 u1 h1
  go_wp2_with fail
  go_loopw [45] (fun c wr => ∃ (k wait : Nat) (win : List Int), k ≤ n ∧ c = .int .i64 k ∧ HasG TG TR TE (fun _ => False) wB wr b1 room most wait num den win ∧ (∀ x ∈ win, 0 ≤ x) ∧ Upd Nowhere w wr ∧ Blk wr w.heap.size #[.int .i64 room, .int .i64 most, .int .u64 num, .int .u64 den] TC) (fun c _ => n - (intOf c).toNat)
  case atStart => exact ⟨0, 0, [], by omega, rfl, H1.out, (fun x hx => by cases hx), U1.out, B1.out⟩
  case round =>
    obtain ⟨k, wait, win, hk, rfl, hG, hpos, hU, hB⟩ := hrel
    have HG := Lib.hid hG
    have HU := Lib.hid hU
    have HBk := Lib.hid hB
    have HP := Lib.hid hpos
    obtain ⟨w2, rfl⟩ : ∃ x, x = wr := ⟨_, rfl⟩
    have hszB := HU1.out.size
    clear hG hU hB hpos H1 U1 B1
    by_cases hlt : k < n
    · have hI : (k : Int) < n := by omega
      obtain ⟨x, hx⟩ : ∃ x, l[k]? = some x := ⟨l[k]'(by rw [HN'.out]; exact hlt), by simp⟩
      obtain ⟨ga, oa, rfl, hcx⟩ : ∃ g o, ad = some ⟨g, o, none⟩ ∧ w.cell? ⟨g, o + k, none⟩ = some (.int .u64 (x : Nat)) := by
        cases ad with
        | none => rw [H0.out rfl] at hx; cases hx
        | some g =>
          obtain ⟨hs, hcc⟩ := HC.out g rfl k x hx
          obtain ⟨g, o, sp⟩ := g
          simp only at hs
          subst hs
          exact ⟨g, o, rfl, hcc⟩
      have hc2 := cell_old HU.out hcx
      obtain ⟨mb, hmb⟩ : ∃ mb, mayB room wait num den win x = mb := ⟨_, rfl⟩
      obtain ⟨wa, hwa⟩ : ∃ t, (if mb then wait + 1 else wait) = t := ⟨_, rfl⟩
      have HO := Lib.hid (hasG_offer HG.out (fun _ h => h.elim) x mb wa _ hmb hwa rfl)
      have HP2 : Hid (∀ y ∈ slid most win ++ [(x : Int)], 0 ≤ y) := Lib.hid (fun y hy => by
        rcases List.mem_append.1 hy with hy | hy
        · unfold slid at hy
          split at hy
          · exact HP.out y hy
          · exact HP.out y (List.mem_of_mem_tail hy)
        · simp only [List.mem_singleton] at hy; omega)
      clear hmb hwa hcx hx
      go_wp2_with fail
      refine (HO.out).mono ?_
      rintro e w3 ⟨rfl, h3, u3⟩
      have H3 := Lib.hid h3
      have U3 := Lib.hid (HU.out.trans u3 (fun q hq h => by have := h.1; omega))
      have B3 := Lib.hid (HBk.out.kept u3 (fun h => by have := h.1; omega))
      clear h3 u3 hc2 HO HG HU HBk HP
      by_cases hm : k % 3 = 0
      · have r0 : ((k : Int) % 3 == 0) = true := by simp; omega
        clear hm
        rcases Nat.eq_zero_or_pos wa with rfl | hwp
        · have HT := Lib.hid (hasG_take0 H3.out)
          go_wp2_with fail
          refine (HT.out).mono ?_
          rintro e w4 ⟨rfl, rfl⟩
          go_wp2_with fail
          go_roundw
          case rel => exact ⟨k + 1, 0, _, by omega, by go_num, H3.out, HP2.out, U3.out, B3.out⟩
          case measure => simp [intOf]; omega
        · obtain ⟨wb, rfl⟩ : ∃ x, wa = x + 1 := ⟨wa - 1, by omega⟩
          have HT := Lib.hid (hasG_take H3.out (fun _ h => h.elim))
          go_wp2_with fail
          refine (HT.out).mono ?_
          rintro e w4 ⟨rfl, h4, u4⟩
          have H4 := Lib.hid h4
          have U4 := Lib.hid (U3.out.trans u4 (fun q hq h => by have := h.1; omega))
          have B4 := Lib.hid (B3.out.kept u4 (fun h => by have := h.1; omega))
          clear h4 u4
          go_wp2_with fail
          go_roundw
          case rel => exact ⟨k + 1, wb, _, by omega, by go_num, H4.out, HP2.out, U4.out, B4.out⟩
          case measure => simp [intOf]; omega
      · have r0 : ((k : Int) % 3 == 0) = false := by simp; omega
        clear hm
        go_wp2_with fail
        go_roundw
        case rel => exact ⟨k + 1, wa, _, by omega, by go_num, H3.out, HP2.out, U3.out, B3.out⟩
        case measure => simp [intOf]; omega
    · have hI : ¬ (k : Int) < n := by omega
      obtain ⟨lo, hlo⟩ : ∃ x, min a b = x := ⟨_, rfl⟩
      obtain ⟨hi, hhi⟩ : ∃ x, max a b = x := ⟨_, rfl⟩
      have hlh : lo ≤ hi := by omega
      have hil : hi ≤ 18446744073709551615 := by omega
      have emin : min (a : Int) b = (lo : Int) := by omega
      have emax : max (a : Int) b = (hi : Int) := by omega
      have y1 := HG.out.facts.2.2.1
      clear hlo hhi
      go_upto_region 13 with fail
      go_cut [73] (fun t wx => t = .bool false ∧ ∃ q, wx = w2.drewN q)
      case first =>
        obtain ⟨mh, hmh⟩ : ∃ x, mayB room wait num den win hi = x := ⟨_, rfl⟩
        have HM := Lib.hid (hasG_may HG.out hi mh hmh)
        cases mh with
        | false =>
          clear hmh
          go_wp2_with fail
          refine (HM.out).mono ?_
          rintro e w3 ⟨rfl, q, rfl⟩
          go_wp2_with fail
          go_meet
          exact ⟨rfl, q, rfl⟩
        | true =>
          have HM2 := fun q => Lib.hid (hasG_may (HG.out.old ((Upd.refl _ _).drewN q)) lo true (mayB_mono hlh hmh))
          clear hmh
          go_wp2_with fail
          refine (HM.out).mono ?_
          rintro e w3 ⟨rfl, q, rfl⟩
          go_wp2_with fail
          refine ((HM2 _).out).mono ?_
          rintro e w3 ⟨rfl, q2, rfl⟩
          go_wp2_with fail
          go_meet
          exact ⟨rfl, _, rfl⟩
      case rest =>
        obtain ⟨rfl, q, hwc⟩ := hcut
        have hUq : Upd Nowhere w2 wc := by rw [hwc]; exact (Upd.refl _ _).drewN q
        have HG3 := Lib.hid (HG.out.old hUq)
        have HU3 := Lib.hid (HU.out.trans hUq (fun _ _ h => h))
        have HB3 := Lib.hid (HBk.out.kept hUq id)
        clear hwc hUq HG HU HBk emin emax
        have HW := Lib.hid (hasG_window HG3.out)
        go_wp2_with fail
        refine (HW.out).mono ?_
        rintro e w4 ⟨⟨v4, rfl, hv4⟩, hu4⟩
        obtain ⟨ad4, ca4, hv4e, hn4, hc4⟩ := ownsRow_rowAt hv4
        subst hv4e
        rw [us_len]
        have HC4 := Lib.hid hc4
        have HN4 := Lib.hid hn4
        have HG4 := Lib.hid (HG3.out.old hu4)
        have HU4 := Lib.hid (HU3.out.trans hu4 (fun _ _ h => h))
        have HB4 := Lib.hid (HB3.out.kept hu4 id)
        clear hv4 hu4 hc4 hn4 HG3 HU3 HB3 HW
        obtain ⟨L, hL⟩ : ∃ L, win.length = L := ⟨_, rfl⟩
        have hLl : L ≤ 1024 := by have := HG4.out.facts; omega
        rw [hL]
        have HL4 := Lib.hid hL
        clear hL
        go_wp2_with fail
        go_loopw [15, 77] (fun s c wr => ∃ (j m : Nat), j ≤ L ∧ c = .int .i64 j ∧ s = .int .u64 m ∧ m ≤ 18446744073709551615 ∧ (∀ i, i < j → ∀ x, win[i]? = some x → (m : Int) ≤ x) ∧ wr = w4) (fun _ c _ => L - (intOf c).toNat)
        case atStart => exact ⟨0, 18446744073709551615, by omega, rfl, rfl, Nat.le_refl _, fun i hi => by omega, rfl⟩
        case round =>
          obtain ⟨j, m, hj, rfl, rfl, hm, hall, rfl⟩ := hrel
          have HA := Lib.hid hall
          clear hall
          by_cases hjl : j < L
          · have hI2 : (j : Int) < L := by omega
            obtain ⟨x, hx⟩ : ∃ x, win[j]? = some x := ⟨win[j]'(by rw [HL4.out]; exact hjl), by simp⟩
            have hx0 := HP.out x (List.mem_of_getElem? hx)
            obtain ⟨y, rfl⟩ : ∃ y : Nat, x = y := ⟨x.toNat, by omega⟩
            obtain ⟨ga, oa, rfl, hcx⟩ := row_at (fun h => ⟨(HN4.out h).1, trivial⟩) HC4.out (i := j) (u := .int .u64 (y : Int)) (us_at hx)
            obtain ⟨m2, hm2⟩ : ∃ x, min m y = x := ⟨_, rfl⟩
            have em : min (m : Int) y = (m2 : Int) := by omega
            have HX := Lib.hid hx
            clear hx
            go_wp2_with fail
            go_roundw
            case rel =>
              refine ⟨j + 1, m2, by omega, by go_num, rfl, by omega, fun i hi x hx => ?_, by first | rfl | trivial⟩
              by_cases hij : i = j
              · subst hij; rw [HX.out] at hx; obtain rfl := Option.some.inj hx; omega
              · have := HA.out i (by omega) x hx; omega
            case measure => simp [intOf]; omega
          · have hI2 : ¬ (j : Int) < L := by omega
            have hleast : ∀ x ∈ win, (m : Int) ≤ x := fun x hx => by
              obtain ⟨i, hi, rfl⟩ := List.getElem_of_mem hx
              exact HA.out i (by have := HL4.out; omega) _ (by simp)
            obtain ⟨ml, hml⟩ : ∃ x, min m a = x := ⟨_, rfl⟩
            have em : min (m : Int) a = (ml : Int) := by omega
            have HM3 := fun u (hu : Upd Nowhere wr u) => Lib.hid (hasG_may (HG4.out.old hu) ml _ (mayB_least (fun x hx => by have := hleast x hx; omega)))
            have HLn := fun u (hu : Upd Nowhere wr u) => Lib.hid (hasG_len (HG4.out.old hu))
            obtain ⟨k0, k1, k2, k3, _, _, _, _⟩ := cells4 HB4.out
            clear hml hleast
            have hr4 := HB4.out
            by_cases hwr : wait < room
            · have d1 : decide ((wait : Int) < room) = true := decide_eq_true (by omega)
              have d2 : decide (wait < room) = true := decide_eq_true hwr
              rw [d2] at HM3
              go_upto_region 22 with fail
              go_quiet ((go_at_call 13; exact quiet_same (HLn _ ((Upd.refl _ _).drewN _)).out))
              go_wp2_with fail
              refine (HM3 _ ((Upd.refl _ _).drewN _)).out.mono ?_
              rintro e w5 ⟨rfl, q5, rfl⟩
              obtain ⟨P1, hP1, hP1l⟩ : ∃ P, wait * den = P ∧ P ≤ 268435456 := ⟨_, rfl, Nat.mul_le_mul (show wait ≤ 4096 by omega) x6⟩
              obtain ⟨P2, hP2, hP2l⟩ : ∃ P, num * room = P ∧ P ≤ 268435456 := ⟨_, rfl, Nat.mul_le_mul (show num ≤ 65536 by omega) x2⟩
              have z1 : IntKind.u64.wrap (wait : Int) = (wait : Int) := by rw [IntKind.wrap_u64]; omega
              have z2 : IntKind.u64.wrap (room : Int) = (room : Int) := by rw [IntKind.wrap_u64]; omega
              have z3 : IntKind.u64.wrap ((wait : Int) * den) = (P1 : Int) := by rw [← Int.natCast_mul, hP1, IntKind.wrap_u64]; omega
              have z4 : IntKind.u64.wrap ((num : Int) * room) = (P2 : Int) := by rw [← Int.natCast_mul, hP2, IntKind.wrap_u64]; omega
              by_cases hq : P1 ≤ P2
              · have d3 : decide (P1 ≤ P2) = true := decide_eq_true hq
                have d4 : decide ((P1 : Int) ≤ P2) = true := decide_eq_true (by omega)
                have HM4 := fun u (hu : Upd Nowhere wr u) => Lib.hid (hasG_may (HG4.out.old hu) hi true (mayB_part hwr x5 (by omega)))
                clear hP1 hP2 HM3 hq
                go_wp2_with fail
                go_quiet ((first | (go_at_call 13; exact quiet_more_same (HLn _ ((Upd.refl _ _).drewN _)).out) | (go_at_call 9; exact quiet_more (HM4 _ ((Upd.refl _ _).drewN _)).out)))
                go_wp2_with fail
                refine (HL _).out.mono ?_
                rintro e w6 ⟨rfl, u6⟩
                go_wp2_with fail
                go_ret
                exact ⟨rfl, (HU4.out.drewN _).trans u6 (fun _ _ h => h)⟩
              · have d3 : decide (P1 ≤ P2) = false := decide_eq_false hq
                have d4 : decide ((P1 : Int) ≤ P2) = false := decide_eq_false (by omega)
                clear hP1 hP2 HM3 hq
                go_wp2_with fail
                go_quiet ((go_at_call 13; exact quiet_more_same (HLn _ ((Upd.refl _ _).drewN _)).out))
                go_wp2_with fail
                refine (HL _).out.mono ?_
                rintro e w6 ⟨rfl, u6⟩
                go_wp2_with fail
                go_ret
                exact ⟨rfl, (HU4.out.drewN _).trans u6 (fun _ _ h => h)⟩
            · have d1 : decide ((wait : Int) < room) = false := decide_eq_false (by omega)
              have d2 : decide (wait < room) = false := decide_eq_false hwr
              rw [d2] at HM3
              go_upto_region 22 with fail
              go_quiet ((go_at_call 13; exact quiet_same (HLn _ ((Upd.refl _ _).drewN _)).out))
              go_wp2_with fail
              refine (HM3 _ ((Upd.refl _ _).drewN _)).out.mono ?_
              rintro e w5 ⟨rfl, q5, rfl⟩
              go_wp2_with fail
              go_quiet (fail)
              go_wp2_with fail
              refine (HL _).out.mono ?_
              rintro e w6 ⟨rfl, u6⟩
              go_wp2_with fail
              go_ret
              exact ⟨rfl, (HU4.out.drewN _).trans u6 (fun _ _ h => h)⟩
theorem rises_law (room most : Int) (num den a b : Nat) (ha : a ≤ 18446744073709551615) (hb : b ≤ 18446744073709551615) (v : Value) (l : List Int) (w : World) (hr : RowAt w v (l.map (.int .u64))) (hw : ∀ n ∈ l, (Lit.int .u64 n).wf = true) :
    Calls Try.prog 4 #[.agg #[.int .i64 room, .int .i64 most, .int .u64 num, .int .u64 den], v, .agg #[.int .u64 a, .int .u64 b]] w fun e w' => e = .returned (.bool true) ∧ Upd Nowhere w w' := by
  obtain ⟨ad, ca, rfl, h0, hc⟩ := hr
  have hlen : (l.map (Value.int .u64)).length = l.length := by simp
  rw [hlen]
  by_cases h : newOf room most num den ≠ 0 ∨ 200 < l.length
  · exact rises_fail room most num den a b ad l.length ca w h (fun h2 => by omega)
  · obtain ⟨r, m, rfl, rfl, x1, x2, x3, x4, x5, x6⟩ := newOf_zero (show newOf room most num den = 0 by omega)
    have hb64 : ∀ x ∈ l, 0 ≤ x ∧ x ≤ 18446744073709551615 := fun x hx => by have := bd64 (hw x hx); omega
    have e : (l.map Int.toNat).length = l.length := by simp
    rw [← e]
    refine rises_walk r m num den a b x1 x2 x3 x4 x5 x6 ha hb ad ca (l.map Int.toNat) (by omega) (fun x hx => ?_) w (fun h => ?_) (fun g hg j x hx => ?_)
    · obtain ⟨y, hy, rfl⟩ := List.mem_map.1 hx; have := hb64 y hy; omega
    · have := (h0 h).1; simpa using this
    · rw [List.getElem?_map] at hx
      cases hy : l[j]? with
      | none => rw [hy] at hx; cases hx
      | some y =>
        rw [hy] at hx
        obtain rfl := Option.some.inj hx
        have h2 := hb64 y (List.mem_of_getElem? hy)
        have h3 := hc g hg j (.int .u64 y) (by rw [List.getElem?_map, hy]; rfl)
        rw [Int.toNat_of_nonneg h2.1]
        exact h3
end Go.Proofs.Ytgppbclgabdkoaa.Aifo
