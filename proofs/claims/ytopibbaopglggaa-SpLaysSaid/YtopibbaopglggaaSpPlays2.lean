/- SpPlays: the walk. -/
import Derived.Test.YtopibbaopglggaaSpPlays
namespace Go.Proofs.Ytopibbaopglggaa.SpI
open Go.RowKit Go.Proofs BigFrame
open PairI (TR TE el flat)
open Ref12 (Ref RefOf TQ TL TI mayC)
set_option maxHeartbeats 1000000
set_option maxRecDepth 1000000
/-- What is done, as cells. -/
def act (a : Nat × Nat × Int) : List Value := [.int .u8 a.1, .int .u64 a.2.1, .int .i64 a.2.2]
theorem act_at {l : List (Nat × Nat × Int)} {i : Nat} {a : Nat × Nat × Int} (h : l[i]? = some a) {j : Nat} {v : Value} (hj : (act a)[j]? = some v) : (l.flatMap act)[i * 3 + j]? = some v := by
  induction l generalizing i with
  | nil => simp at h
  | cons b l ih =>
    have hl : (act b).length = 3 := rfl
    rw [List.flatMap_cons]
    cases i with
    | zero =>
      simp only [List.getElem?_cons_zero, Option.some.injEq] at h
      subst h
      have hlt : j < 3 := by
        rcases Nat.lt_or_ge j 3 with h | h
        · exact h
        · rw [List.getElem?_eq_none (by rw [hl]; exact h)] at hj; cases hj
      rw [List.getElem?_append_left (by rw [hl]; omega), Nat.zero_mul, Nat.zero_add]
      exact hj
    | succ i =>
      rw [List.getElem?_append_right (by rw [hl]; omega), hl, show (i + 1) * 3 + j - 3 = i * 3 + j by omega]
      exact ih (by simpa using h)
/-- What a round starts with. -/
def Rd (w wr : World) (s b room n : Nat) : Prop := ∃ (cnt : Nat) (bs : Nat → Nat) (ps : Nat → List (Nat × Int)), Pl none #[] w wr s b room n cnt bs ps bs ps
theorem plays_ok (room n : Nat) (h1 : 1 ≤ room) (h2 : room ≤ 4096) (h3 : 1 ≤ n) (h4 : n ≤ 32) (ad : Option Addr) (ca : Nat) (l : List (Nat × Nat × Int)) (hl : l.length ≤ 150) (hb : ∀ (i : Nat) (a : Nat × Nat × Int), l[i]? = some a → a.1 ≤ 255 ∧ a.2.1 ≤ 18446744073709551615) (w : World)
    (ha0 : ad = none → l.length = 0) (ha : ∀ b, ad = some b → ∀ (j : Nat) (v : Value), (l.flatMap act)[j]? = some v → b.spot = none ∧ w.cell? ⟨b.block, b.off + j, none⟩ = some v) :
    Calls Try.prog 7 #[.int .i64 room, .int .i64 n, .slice ad l.length ca] w fun e w' => e = .returned (.bool true) ∧ Upd Nowhere w w' := by
  obtain ⟨N, hn⟩ : ∃ N, l.length = N := ⟨_, rfl⟩
  rw [hn] at hl ⊢
  have t0 : decide ((N : Int) > 150) = false := decide_eq_false (by omega)
  have t1 : decide (150 < (N : Int)) = false := decide_eq_false (by omega)
  have Hn := Lib.hid hn
  have Hb := Lib.hid hb
  have Ha0 := Lib.hid ha0
  have Ha := Lib.hid ha
  have Hnew := Lib.hid (has_new w room n h1 h2 h3 h4)
  have Hmay := fun u => Lib.hid (Ref12.may_any (room : Int) (n : Int) u)
  have hmay : mayC (room : Int) (n : Int) = 0 := by unfold mayC; rw [if_neg (by omega), if_neg (by omega)]
  rw [hmay] at Hmay
  clear hn hb ha0 ha hmay
  go_enter Try.func7, Try.ntmps7
  go_wp2_with fail
  refine (Hnew.out).mono ?_
  rintro e w1 ⟨s, rfl, hh⟩
  have HH := Lib.hid hh
  clear Hnew hh
  go_wp2_with fail
  refine ((Hmay _).out).mono ?_
  rintro e w2 ⟨rfl, rfl⟩
  clear Hmay
  go_wp2_with fail
  refine (Ref12.new_any w1 room n h4).mono ?_
  rintro e w3 ⟨bv, lv, rfl, hr3, hu3⟩
  obtain ⟨b, hbb⟩ : ∃ b, w1.heap.size = b := ⟨_, rfl⟩
  have hw1 : Upd Nowhere w w1 := HH.out.upd
  have hst : Rd w w3 s b room n := by
    have hr4 : Ref w.heap.size w3 b room n bv lv (fun _ => .slice none 0 0) (fun _ => 0) (fun _ => []) := by
      rw [hbb] at hr3
      exact { hr3 with bnd := ownsRow_base hr3.bnd (by have := hw1.size; omega), lst := ownsRow_base hr3.lst (by have := hw1.size; omega), row := fun i hi => PRow.nil _ _ _, low := by have := hw1.size; have := hr3.low; omega }
    refine ⟨0, _, _, bv, lv, _, ⟨((HH.out.off.re (A' := Offs b n bv lv (fun _ => .slice none 0 0) none) (fun k hk => ?_)).old hu3), hr4, hw1.trans hu3 (fun _ _ h => h), (fun q hq => by cases hq), h3, h4, h2⟩⟩
    rcases hk with hk | hk
    · have := (hr3.lts (by rw [hbb]; exact hk)).1; exact .inr this
    · cases hk
  rw [hbb]
  clear HH hr3 hu3 hw1 hbb
  go_wp2_with fail
  go_loopw [61] (fun i wr => ∃ (k : Nat), k ≤ N ∧ i = .int .i64 k ∧ Rd w wr s b room n) (fun i _ => N - (intOf i).toNat)
  case atStart => exact ⟨0, by omega, rfl, hst⟩
  case round =>
    obtain ⟨k, hk, rfl, cnt, bs, ps, hpl⟩ := hrel
    obtain ⟨wB, rfl⟩ : ∃ x, x = wr := ⟨_, rfl⟩
    have HP := Lib.hid hpl
    clear hpl hst
    by_cases hlt : k < N
    · have hI : (k : Int) < N := by omega
      obtain ⟨⟨K, R, X⟩, hx⟩ : ∃ a, l[k]? = some a := ⟨l[k]'(by rw [Hn.out]; exact hlt), by simp⟩
      obtain ⟨hK, hR⟩ := Hb.out k _ hx
      simp only at hK hR
      obtain ⟨ga, oa, rfl⟩ : ∃ ga oa, ad = some ⟨ga, oa, none⟩ := by
        cases ad with
        | none => have := Ha0.out rfl; rw [Hn.out] at this; omega
        | some b =>
          have hs := (Ha.out b rfl _ _ (act_at hx (j := 0) rfl)).1
          obtain ⟨g, o, sp⟩ := b
          simp only at hs
          subst hs
          exact ⟨g, o, rfl⟩
      have r0 : wB.cell? ⟨ga, oa + k * 3, none⟩ = some (.int .u8 K) := cell_old HP.out.upd (Ha.out _ rfl _ _ (act_at hx (j := 0) rfl)).2
      have r1 : wB.cell? ⟨ga, oa + (k * 3 + 1), none⟩ = some (.int .u64 R) := cell_old HP.out.upd (Ha.out _ rfl _ _ (act_at hx (j := 1) rfl)).2
      have r2 : wB.cell? ⟨ga, oa + (k * 3 + 2), none⟩ = some (.int .i64 X) := cell_old HP.out.upd (Ha.out _ rfl _ _ (act_at hx (j := 2) rfl)).2
      have r1' : wB.cell? ⟨ga, oa + k * 3 + 1, none⟩ = some (.int .u64 R) := by rw [Nat.add_assoc]; exact r1
      have r2' : wB.cell? ⟨ga, oa + k * 3 + 2, none⟩ = some (.int .i64 X) := by rw [Nat.add_assoc]; exact r2
      clear hx
      have eK : (K : Int) % 4 = ((K % 4 : Nat) : Int) := rfl
      have hr4 : K % 4 < 4 := Nat.mod_lt _ (by omega)
      generalize K % 4 = r at *
      have HA : Hid (Pl (some wB.heap.size) #[.int .u8 K, .int .u64 R, .int .i64 X] w (wB.alloc (.cells #[.int .u8 K, .int .u64 R, .int .i64 X] TA)) s b room n cnt bs ps bs ps) := Lib.hid (HP.out.some _)
      clear HP
      go_upto_if 68 with fail
      obtain ⟨wA, hwA⟩ : ∃ wA, wB.alloc (.cells #[.int .u8 K, .int .u64 R, .int .i64 X] TA) = wA := ⟨_, rfl⟩
      rw [hwA] at HA ⊢
      go_cut [13, 14, 15, 16, 17, 18, 19, 20, 21, 22, 61] from 61 to 151 (fun _ _ _ _ _ _ _ _ _ _ i wc => i = .int .i64 k ∧ Rd w wc s b room n)
      case first =>
        as_aux_lemma =>
          obtain ⟨j0, j1, j2, y0, y1, y2⟩ := cells3 HA.out.blk
          rcases (show r < 3 ∨ r = 3 by omega) with hr3 | rfl
          · have d1 : decide ((r : Int) < 3) = true := decide_eq_true (by omega)
            have d2 : decide (r < 3) = true := decide_eq_true hr3
            by_cases hfit : cnt < room
            · go_wp2_with fail
              refine (t_push HA.out hfit R hR X).mono ?_
              rintro e w4 ⟨rfl, h4⟩
              have H4 := Lib.hid h4
              obtain ⟨j0, j1, j2, y0, y1, y2⟩ := cells3 h4.blk
              have e4 : (((pick bs R (n - 1) : Nat) : Int) != ((pick bs R (n - 1) : Nat) : Int)) = false := by simp
              clear h4
              go_wp2_with fail
              refine (t_rpush H4.out (by have := HA.out.tot_; omega) HA.out.fit R hR X).mono ?_
              rintro e w5 ⟨rfl, h5⟩
              go_wp2_with fail
              go_meet
              exact ⟨rfl, cnt + 1, _, _, h5.none⟩
            · have hfe : cnt = room := by have := HA.out.le; omega
              have HFE := Lib.hid hfe
              clear hfe
              go_wp2_with fail
              refine (t_full HA.out HFE.out R X).mono ?_
              rintro e w4 ⟨rfl, h4⟩
              have H4 := Lib.hid h4
              obtain ⟨j0, j1, j2, y0, y1, y2⟩ := cells3 h4.blk
              clear h4
              go_wp2_with fail
              refine (t_rfull H4.out (by have := HA.out.tot_; have := HFE.out; omega) R X).mono ?_
              rintro e w5 ⟨rfl, h5⟩
              go_wp2_with fail
              go_meet
              exact ⟨rfl, cnt, bs, ps, h5.none⟩
          · have eK4 : (K : Int) % 4 = 3 := eK
            clear eK
            rcases lead_ex ps n with hl0 | ⟨i, ⟨a0, a1⟩, t, hi, hl0, hx0⟩
            · have HL0 := Lib.hid hl0
              clear hl0
              go_wp2_with fail
              refine (t_pop0 HA.out HL0.out).mono ?_
              rintro e w4 ⟨rfl, h4⟩
              have H4 := Lib.hid h4
              clear h4
              go_wp2_with fail
              refine (t_rpop0 H4.out HL0.out).mono ?_
              rintro e w5 ⟨rfl, h5⟩
              go_wp2_with fail
              go_meet
              exact ⟨rfl, cnt, bs, ps, h5.none⟩
            · have ht : t.length ≤ 4096 := by have h1 := tot_le ps hi; have h2 := HA.out.tot_; have h3 := HA.out.le; rw [hx0] at h1; simp at h1; omega
              have HL0 := Lib.hid hl0
              have HX0 := Lib.hid hx0
              have HT := Lib.hid ht
              have e4 : ((a0 : Int) != a0) = false := by simp
              have e5 : (a1 != a1) = false := by simp
              clear hl0 hx0 ht
              go_wp2_with fail
              refine (t_pop HA.out i hi HL0.out HX0.out).mono ?_
              rintro e w4 ⟨rfl, h4⟩
              have H4 := Lib.hid h4
              clear h4
              go_wp2_with fail
              refine (t_rpop H4.out i hi HL0.out HX0.out HT.out).mono ?_
              rintro e w5 ⟨rfl, h5⟩
              go_wp2_with fail
              go_meet
              exact ⟨rfl, cnt - 1, bs, _, h5.none⟩
      case rest =>
        as_aux_lemma =>
          obtain ⟨rfl, cm, bs2, ps2, hpl2⟩ := hcut
          have HP2 := Lib.hid hpl2
          clear hpl2 HA hwA r0 r1 r2 r1' r2' eK hr4
          rcases lead_ex ps2 n with hl0 | ⟨i, ⟨a0, a1⟩, t, hi, hl0, hx0⟩
          · have HL0 := Lib.hid hl0
            clear hl0
            go_wp2_with fail
            refine (t_peek0 HP2.out HL0.out).mono ?_
            rintro e w4 ⟨rfl, h4⟩
            have H4 := Lib.hid h4
            clear h4
            go_wp2_with fail
            refine (t_rpeek0 H4.out HL0.out).mono ?_
            rintro e w5 ⟨rfl, h5⟩
            have H5 := Lib.hid h5
            clear h5
            go_wp2_with fail
            refine (t_stands H5.out).mono ?_
            rintro e w6 ⟨rfl, h6⟩
            go_wp2_with fail
            go_roundw
            case rel => exact ⟨k + 1, by omega, by go_num, cm, bs2, ps2, h6⟩
            case measure => simp [intOf]; omega
          · have HL0 := Lib.hid hl0
            have HX0 := Lib.hid hx0
            have e4 : ((a0 : Int) != a0) = false := by simp
            have e5 : (a1 != a1) = false := by simp
            clear hl0 hx0
            go_wp2_with fail
            refine (t_peek HP2.out i hi HL0.out HX0.out).mono ?_
            rintro e w4 ⟨rfl, h4⟩
            have H4 := Lib.hid h4
            clear h4
            go_wp2_with fail
            refine (t_rpeek H4.out i hi HL0.out HX0.out).mono ?_
            rintro e w5 ⟨rfl, h5⟩
            have H5 := Lib.hid h5
            clear h5
            go_wp2_with fail
            refine (t_stands H5.out).mono ?_
            rintro e w6 ⟨rfl, h6⟩
            go_wp2_with fail
            go_roundw
            case rel => exact ⟨k + 1, by omega, by go_num, cm, bs2, ps2, h6⟩
            case measure => simp [intOf]; omega
    · obtain rfl : k = N := by omega
      go_wp2_with fail
      refine ((Sp.lives _)).mono ?_
      rintro e w' ⟨rfl, hu⟩
      go_wp2_with fail
      go_ret
      exact ⟨rfl, HP.out.upd.trans hu (fun _ _ h => h)⟩
theorem plays_big (room n : Nat) (h1 : 1 ≤ room) (h2 : room ≤ 4096) (h3 : 1 ≤ n) (h4 : n ≤ 32) (ad : Option Addr) (ca N : Nat) (hl : 150 < N) (w : World) :
    Calls Try.prog 7 #[.int .i64 room, .int .i64 n, .slice ad N ca] w fun e w' => e = .returned (.bool true) ∧ Upd Nowhere w w' := by
  have t0 : decide ((N : Int) > 150) = true := decide_eq_true (by omega)
  have t1 : decide (150 < (N : Int)) = true := decide_eq_true (by omega)
  have t2 : decide (150 < N) = true := decide_eq_true hl
  have Hnew := Lib.hid (has_new w room n h1 h2 h3 h4)
  have Hmay := fun u => Lib.hid (Ref12.may_any (room : Int) (n : Int) u)
  have hmay : mayC (room : Int) (n : Int) = 0 := by unfold mayC; rw [if_neg (by omega), if_neg (by omega)]
  rw [hmay] at Hmay
  clear hmay hl h1 h2 h3 h4
  go_enter Try.func7, Try.ntmps7
  go_wp2_with fail
  refine (Hnew.out).mono ?_
  rintro e w1 ⟨s, rfl, hh⟩
  have HU := Lib.hid hh.upd
  clear Hnew hh
  go_wp2_with fail
  refine ((Hmay _).out).mono ?_
  rintro e w2 ⟨rfl, rfl⟩
  go_wp2_with fail
  refine ((Sp.lives _)).mono ?_
  rintro e w3 ⟨rfl, u3⟩
  go_wp2_with fail
  go_ret
  exact ⟨rfl, HU.out.trans u3 (fun _ _ h => h)⟩
theorem plays_no (room n : Int) (h : mayC room n ≠ 0) (ad : Option Addr) (ca N : Nat) (w : World) :
    Calls Try.prog 7 #[.int .i64 room, .int .i64 n, .slice ad N ca] w fun e w' => e = .returned (.bool true) ∧ Upd Nowhere w w' := by
  have Hnew := Lib.hid (new_bad room n w h)
  have Hmay := fun u => Lib.hid (Ref12.may_any room n u)
  generalize mayC room n = r at *
  have d1 : (r != r) = false := by simp
  have d2 : (r == 0) = false := by simpa using h
  have d3 : (r != 0) = true := by simpa using h
  clear h
  go_enter Try.func7, Try.ntmps7
  go_wp2_with fail
  refine (Hnew.out).mono ?_
  rintro e w1 ⟨rfl, rfl⟩
  go_wp2_with fail
  refine ((Hmay _).out).mono ?_
  rintro e w2 ⟨rfl, rfl⟩
  go_wp2_with fail
  refine ((Sp.lives _)).mono ?_
  rintro e w3 ⟨rfl, u3⟩
  go_wp2_with fail
  go_ret
  exact ⟨rfl, u3⟩
theorem plays_law (room n : Int) (v : Value) (l : List (Nat × Nat × Int)) (hb : ∀ a ∈ l, a.1 ≤ 255 ∧ a.2.1 ≤ 18446744073709551615) (w : World) (hv : RowsAt w v l.length (l.flatMap act)) :
    Calls Try.prog 7 #[.int .i64 room, .int .i64 n, v] w fun e w' => e = .returned (.bool true) ∧ Upd Nowhere w w' := by
  obtain ⟨ad, ca, rfl, h0, _, hca, hc⟩ := hv
  by_cases h : mayC room n ≠ 0
  · exact plays_no room n h ad ca _ w
  · have h : ¬ (room < 1 ∨ 4096 < room) ∧ ¬ (n < 1 ∨ 32 < n) := by
      unfold mayC at h
      constructor
      · intro h1; rw [if_pos h1] at h; simp at h
      · intro h1
        by_cases h2 : room < 1 ∨ 4096 < room
        · rw [if_pos h2] at h; simp at h
        · rw [if_neg h2, if_pos h1] at h; simp at h
    obtain ⟨r, rfl⟩ : ∃ r : Nat, room = r := ⟨room.toNat, by omega⟩
    obtain ⟨q, rfl⟩ : ∃ r : Nat, n = r := ⟨n.toNat, by omega⟩
    rcases Nat.lt_or_ge 150 l.length with hbig | hsm
    · exact plays_big r q (by omega) (by omega) (by omega) (by omega) ad ca _ hbig w
    · exact plays_ok r q (by omega) (by omega) (by omega) (by omega) ad ca l hsm (fun i a h => hb a (List.mem_of_getElem? h)) w (fun h => (h0 h).1) hc
end Go.Proofs.Ytopibbaopglggaa.SpI
