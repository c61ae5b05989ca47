/- RingOrder: the walk. -/
import Derived.Test.YtcjneckhaempkaaRingOrder
namespace Go.Proofs.Ytcjneckhaempkaa.RingOrder
open Go.RowKit Go.Proofs BigFrame
open Ref06 (ints ints_len ints_at)
open RingI (TR TE)

def bytes (l : List Int) : List Value := l.map (.int .u8)
theorem bytes_len (l : List Int) : (bytes l).length = l.length := by simp [bytes]

set_option maxHeartbeats 1000000
theorem walk (w : World) (rm : Int) (h0 : 0 ≤ rm) (h255 : rm ≤ 255) (vp vt : Value) (ps ts : List Int) (hp : RowAt w vp (ints ps)) (ht : RowAt w vt (bytes ts)) (hts : ∀ t ∈ ts, 0 ≤ t ∧ t ≤ 255)
    (hlp : ps.length ≤ 9223372036854775807) (hlt : ts.length ≤ 9223372036854775807) :
    Calls Try.prog 3 #[.int .u8 rm, vp, vt] w fun e w' => e = .returned (.bool true) ∧ Upd Nowhere w w' := by
  obtain ⟨adp, cp, rfl, hp0, hp1⟩ := hp
  obtain ⟨adt, ct, rfl, ht0, ht1⟩ := ht
  rw [ints_len, bytes_len]
  obtain ⟨n, hn⟩ : ∃ n, ps.length = n := ⟨_, rfl⟩
  obtain ⟨m, hm⟩ : ∃ m, ts.length = m := ⟨_, rfl⟩
  rw [hn] at hlp ⊢
  rw [hm] at hlt ⊢
  have Hn := Lib.hid hn
  have Hm := Lib.hid hm
  have Hp0 := Lib.hid hp0
  have Hp1 := Lib.hid hp1
  have Ht0 := Lib.hid ht0
  have Ht1 := Lib.hid ht1
  have Hts := Lib.hid hts
  clear hn hm hp0 hp1 ht0 ht1 hts
  by_cases c1 : n ≤ 300
  case neg =>
    have d1 : decide (300 < n) = true := by simp; omega
    go_enter Try.func3, Try.ntmps3
    go_wp2_with (go_at_call 7; refine (ring_lives _).mono ?_; rintro e w' ⟨rfl, hu⟩; have Hu := Lib.hid hu; clear hu)
    go_ret
    exact ⟨rfl, Hu.out⟩
  have d1 : decide (300 < n) = false := by simp; omega
  by_cases c2 : m ≤ 300
  case neg =>
    have d2 : decide (300 < m) = true := by simp; omega
    go_enter Try.func3, Try.ntmps3
    go_wp2_with (go_at_call 7; refine (ring_lives _).mono ?_; rintro e w' ⟨rfl, hu⟩; have Hu := Lib.hid hu; clear hu)
    go_ret
    exact ⟨rfl, Hu.out⟩
  have d2 : decide (300 < m) = false := by simp; omega
  obtain ⟨room, hroom⟩ : ∃ room : Nat, rm + 1 = room := ⟨(rm + 1).toNat, by omega⟩
  have hr1 : 1 ≤ room := by omega
  have hr2 : room ≤ 256 := by omega
  have Hnew := Lib.hid (RingI.new_ok w room hr1 (by omega))
  rw [← hroom] at Hnew
  have Hroom := Lib.hid hroom
  clear hroom
  obtain ⟨i0, hi, hz0, hz1, hz2⟩ := info_parts Ref06.info
  go_enter Try.func3, Try.ntmps3
  go_wp2_with (go_at_call 8; refine Hnew.out.mono ?_; rintro e w1 ⟨rfl, hr, hu⟩; have H1 := Lib.hid hr; have U1 := Lib.hid hu; clear hr hu)
  have hst : St w.heap.size w w1 w.heap.size none room (.slice none 0 0) (.slice none 0 0) [] [] [] := by
    refine ⟨U1.out.any _, Nat.le_refl _, H1.out, fun k hk => ⟨?_, by simp [Value.ownBlock], by simp [Value.ownBlock]⟩, ownsRow_nil _ _ _ _, ownsRow_nil _ _ _ _, fun k hk => by cases hk⟩
    rcases hk with rfl | hk
    · exact Nat.le_refl _
    · cases hk
  go_loopw [9, 10, 36] (fun pv gv i wr => ∃ (k : Nat) (g : Option Nat) (P G R : List Int), k ≤ n ∧ i = .int .i64 k ∧ P.length ≤ k ∧ P = G ++ R ∧ St w.heap.size w wr w.heap.size g room pv gv P G R) (fun _ _ i _ => n - (intOf i).toNat)
  case atStart => exact ⟨0, none, [], [], [], by omega, rfl, by simp, rfl, hst⟩
  case round =>
    obtain ⟨k, g, P, G, R, hk, rfl, hPk, hPGR, hst⟩ := hrel
    have HP := Lib.hid hPGR
    have HS := Lib.hid hst
    clear hPGR hst
    by_cases hlt : k < n
    · obtain ⟨x, hx⟩ : ∃ x, ps[k]? = some x := ⟨ps[k]'(by rw [Hn.out]; exact hlt), by simp⟩
      obtain ⟨gp, op, hadp, hcp⟩ := row_at (fun h => ⟨(Hp0.out h).1, trivial⟩) Hp1.out (ints_at hx)
      subst hadp
      have hcp' := cell_keep HS.out.upd rfl hcp
      clear hcp hx
      have hput : Hid (Calls Try.prog 9 #[.pointer (some ⟨w.heap.size, 0, none⟩), .int .i64 x] wr fun e w' => (R.length < room ∧ e = .returned (.bool true) ∧ RingTurned TR TE wr w' w.heap.size g room (ints (R ++ [x]))) ∨ (e = .returned (.bool false) ∧ ∃ q, w' = wr.drewN q)) := by
        obtain ⟨fr, len, hR⟩ := HS.out.ring
        by_cases hroom : R.length < room
        · exact (RingI.put_room wr _ g room fr len R x hR hroom).mono fun e w' h => .inl ⟨hroom, h⟩
        · have : R.length = room := by
            have h1 := hR.le1
            have h2 := hR.le2
            rw [ints_len] at h1
            omega
          exact (RingI.put_full wr _ g room fr len R x hR this).mono fun e w' h => .inr h
      go_wp2_with (go_at_call 9; refine hput.out.mono ?_)
      rintro e w2 (⟨hroom, rfl, ht⟩ | ⟨rfl, q, rfl⟩)
      · obtain ⟨g2, hs2⟩ := HS.out.turn ht
        have HS2 := Lib.hid hs2
        clear ht hs2
        have hle : w.heap.size ≤ w2.heap.size := HS2.out.base
        go_wp2_with (at_builtin; refine wpList_push rfl _ _ 22 rfl w.heap.size 3 i0 (.int .i64 0) 1 8 Try.underlying22 hi hz0 hz1 hz2 rfl (by decide) (by decide) _ _ _ rfl (HS2.out.alloc _).put w2.heap.size 1 [.int .i64 x] rfl rfl (new_cells _ #[_] _) (by simp [Value.oneCell']) (by omega) (by simp; omega) ?_; intro pv3 w3 hown3 hu3 hn3; have HS3 := Lib.hid ((HS2.out.alloc _).pushP hown3 hu3 hn3); clear hown3 hu3 hn3)
        have HP3 : Hid (P ++ [x] = G ++ (R ++ [x])) := by have := HP.out; subst this; exact List.append_assoc _ _ _
        have hP3 : (P ++ [x]).length ≤ k + 1 := by simp; omega
        have hR3 : (R ++ [x]).length ≤ room := by simp; omega
        generalize P ++ [x] = P3 at HS3 HP3 hP3
        generalize R ++ [x] = R3 at HS3 HP3 hR3
        clear HS2 HS HP hPk hroom hput Hnew hle
        obtain ⟨g3, rfl⟩ : ∃ g3, g3 = g2 := ⟨_, rfl⟩
        go_loopw [10, 13] (fun gw j ws => ∃ (jj : Nat) (g' : Option Nat) (G' R' : List Int), jj ≤ 4 ∧ j = .int .i64 jj ∧ P3 = G' ++ R' ∧ St w.heap.size w ws w.heap.size g' room pv3 gw P3 G' R') (fun _ j _ => 4 - (intOf j).toNat)
        case atStart => exact ⟨0, g3, G, R3, by omega, rfl, HP3.out, HS3.out⟩
        case round =>
          clear HS3 HP3
          rename_i ws _
          obtain ⟨jj, g', G', R', hj4, rfl, hPGR, hst⟩ := hrel
          have HP := Lib.hid hPGR
          have HS := Lib.hid hst
          clear hPGR hst
          by_cases hit : k < m
          · obtain ⟨t, ht⟩ : ∃ t, ts[k]? = some t := ⟨ts[k]'(by rw [Hm.out]; exact hit), by simp⟩
            have htb := Hts.out t (List.mem_of_getElem? ht)
            obtain ⟨gt, ot, hadt, hct⟩ := row_at (fun h => ⟨(Ht0.out h).1, trivial⟩) Ht1.out (i := k) (u := .int .u8 t) (by simp [bytes, ht])
            subst hadt
            have hct' := cell_keep HS.out.upd rfl hct
            clear hct ht
            obtain ⟨htb1, htb2⟩ := htb
            have hd1 : decide (k < m) = true := by simpa using hit
            by_cases hjt : (jj : Int) < t % 4
            · have hd2 : decide ((jj : Int) < t % 4) = true := by simpa using hjt
              go_wp2_with fail
              obtain ⟨fr, len, hR⟩ := HS.out.ring
              cases R' with
              | nil =>
                refine (RingI.take_empty _ _ _ _ _ _ hR).mono ?_
                clear hR
                rintro e w4 ⟨rfl, q4, rfl⟩
                go_wp2_with fail
                go_roundw
                case rel => exact ⟨jj + 1, g', G', [], by omega, by go_num, HP.out, HS.out.drewN q4⟩
                case measure => simp [intOf]; omega
              | cons y R4 =>
                refine (RingI.take_some _ _ _ _ _ _ y R4 hR).mono ?_
                clear hR
                rintro e w4 ⟨rfl, ht⟩
                obtain ⟨g4, hs4⟩ := HS.out.turn ht
                have HS4 := Lib.hid hs4
                clear ht hs4
                have hle : w.heap.size ≤ w4.heap.size := HS4.out.base
                have hGl : G'.length ≤ 300 := by have := HP.out; subst this; simp at hP3; omega
                go_wp2_with (at_builtin; refine wpList_push rfl _ _ 22 rfl w.heap.size 3 i0 (.int .i64 0) 1 8 Try.underlying22 hi hz0 hz1 hz2 rfl (by decide) (by decide) _ _ _ rfl (HS4.out.alloc _).got w4.heap.size 1 [.int .i64 y] rfl rfl (new_cells _ #[_] _) (by simp [Value.oneCell']) (by omega) (by simp; omega) ?_; intro gv5 w5 hown5 hu5 hn5; have HS5 := Lib.hid ((HS4.out.alloc _).pushG (l := [y]) hown5 hu5 hn5); clear hown5 hu5 hn5)
                go_roundw
                case rel => exact ⟨jj + 1, g4, G' ++ [y], R4, by omega, by go_num, by rw [HP.out]; simp, HS5.out⟩
                case measure => simp [intOf]; omega
            · have hd2 : decide ((jj : Int) < t % 4) = false := by simpa using hjt
              go_wp2_with fail
              go_roundw
              case rel => exact ⟨k + 1, g', P3, G', R', by omega, by go_num, hP3, HP.out, HS.out⟩
              case measure => simp [intOf]; omega
          · have hd1 : decide (k < m) = false := by simpa using hit
            go_wp2_with fail
            go_roundw
            case rel => exact ⟨k + 1, g', P3, G', R', by omega, by go_num, hP3, HP.out, HS.out⟩
            case measure => simp [intOf]; omega
      · go_wp2
        have HS3 := Lib.hid (HS.out.drewN q)
        have HP3 := HP
        have hP3 : P.length ≤ k + 1 := by omega
        clear HS HP hPk hput Hnew
        obtain ⟨g3, rfl⟩ : ∃ g3, g3 = g := ⟨_, rfl⟩
        obtain ⟨pv3, rfl⟩ : ∃ pv3, pv3 = u9 := ⟨_, rfl⟩
        obtain ⟨P3, rfl⟩ : ∃ P3, P3 = P := ⟨_, rfl⟩
        obtain ⟨R3, rfl⟩ : ∃ R3, R3 = R := ⟨_, rfl⟩
        go_loopw [10, 13] (fun gw j ws => ∃ (jj : Nat) (g' : Option Nat) (G' R' : List Int), jj ≤ 4 ∧ j = .int .i64 jj ∧ P3 = G' ++ R' ∧ St w.heap.size w ws w.heap.size g' room pv3 gw P3 G' R') (fun _ j _ => 4 - (intOf j).toNat)
        case atStart => exact ⟨0, g3, G, R3, by omega, rfl, HP3.out, HS3.out⟩
        case round =>
          clear HS3 HP3
          rename_i ws _
          obtain ⟨jj, g', G', R', hj4, rfl, hPGR, hst⟩ := hrel
          have HP := Lib.hid hPGR
          have HS := Lib.hid hst
          clear hPGR hst
          by_cases hit : k < m
          · obtain ⟨t, ht⟩ : ∃ t, ts[k]? = some t := ⟨ts[k]'(by rw [Hm.out]; exact hit), by simp⟩
            have htb := Hts.out t (List.mem_of_getElem? ht)
            obtain ⟨gt, ot, hadt, hct⟩ := row_at (fun h => ⟨(Ht0.out h).1, trivial⟩) Ht1.out (i := k) (u := .int .u8 t) (by simp [bytes, ht])
            subst hadt
            have hct' := cell_keep HS.out.upd rfl hct
            clear hct ht
            obtain ⟨htb1, htb2⟩ := htb
            have hd1 : decide (k < m) = true := by simpa using hit
            by_cases hjt : (jj : Int) < t % 4
            · have hd2 : decide ((jj : Int) < t % 4) = true := by simpa using hjt
              go_wp2_with fail
              obtain ⟨fr, len, hR⟩ := HS.out.ring
              cases R' with
              | nil =>
                refine (RingI.take_empty _ _ _ _ _ _ hR).mono ?_
                clear hR
                rintro e w4 ⟨rfl, q4, rfl⟩
                go_wp2_with fail
                go_roundw
                case rel => exact ⟨jj + 1, g', G', [], by omega, by go_num, HP.out, HS.out.drewN q4⟩
                case measure => simp [intOf]; omega
              | cons y R4 =>
                refine (RingI.take_some _ _ _ _ _ _ y R4 hR).mono ?_
                clear hR
                rintro e w4 ⟨rfl, ht⟩
                obtain ⟨g4, hs4⟩ := HS.out.turn ht
                have HS4 := Lib.hid hs4
                clear ht hs4
                have hle : w.heap.size ≤ w4.heap.size := HS4.out.base
                have hGl : G'.length ≤ 300 := by have := HP.out; subst this; simp at hP3; omega
                go_wp2_with (at_builtin; refine wpList_push rfl _ _ 22 rfl w.heap.size 3 i0 (.int .i64 0) 1 8 Try.underlying22 hi hz0 hz1 hz2 rfl (by decide) (by decide) _ _ _ rfl (HS4.out.alloc _).got w4.heap.size 1 [.int .i64 y] rfl rfl (new_cells _ #[_] _) (by simp [Value.oneCell']) (by omega) (by simp; omega) ?_; intro gv5 w5 hown5 hu5 hn5; have HS5 := Lib.hid ((HS4.out.alloc _).pushG (l := [y]) hown5 hu5 hn5); clear hown5 hu5 hn5)
                go_roundw
                case rel => exact ⟨jj + 1, g4, G' ++ [y], R4, by omega, by go_num, by rw [HP.out]; simp, HS5.out⟩
                case measure => simp [intOf]; omega
            · have hd2 : decide ((jj : Int) < t % 4) = false := by simpa using hjt
              go_wp2_with fail
              go_roundw
              case rel => exact ⟨k + 1, g', P3, G', R', by omega, by go_num, hP3, HP.out, HS.out⟩
              case measure => simp [intOf]; omega
          · have hd1 : decide (k < m) = false := by simpa using hit
            go_wp2_with fail
            go_roundw
            case rel => exact ⟨k + 1, g', P3, G', R', by omega, by go_num, hP3, HP.out, HS.out⟩
            case measure => simp [intOf]; omega
    · have hkn : k = n := by omega
      obtain ⟨fr, len, hR⟩ := HS.out.ring
      have hall := RingI.all_any wr _ g room fr len R hR
      clear hR
      have Hall := Lib.hid hall
      clear hall
      have hle : w.heap.size ≤ wr.heap.size := HS.out.base
      have hlen : P.length = G.length + R.length := by rw [HP.out]; simp
      go_wp2_with fail
      refine Hall.out.mono ?_
      rintro e w4 ⟨⟨v4, rfl, hv4⟩, hu4⟩
      have HR4 := Lib.hid (ownsRow_rowAt hv4)
      have HS4 := Lib.hid (HS.out.old hu4)
      clear hv4 hu4 HS
      have hle4 : w.heap.size ≤ w4.heap.size := HS4.out.base
      go_wp2_with (at_builtin; refine wpList_appRow rfl _ _ 22 rfl w.heap.size 3 i0 (.int .i64 0) 8 Try.underlying22 hi hz0 hz1 hz2 rfl (by decide) _ _ _ rfl HS4.out.got v4 (ints R) rfl HR4.out (by simp [ints, Value.oneCell']) (by simp [ints]; omega) hle4 ?_; intro gv5 w5 hown5 hu5 hn5; have HS5 := Lib.hid (HS4.out.pushG (l := R) hown5 hu5 hn5); clear hown5 hu5 hn5)
      have HPP := Lib.hid HP.out
      have hlen5 : (G ++ R).length = P.length := by rw [HP.out]
      refine (Ref06.same_any w5 _ _ P (G ++ R) (ownsRow_rowAt HS5.out.put) (ownsRow_rowAt HS5.out.got) (by omega) (by omega)).mono ?_
      rintro e w6 ⟨rfl, q6, rfl⟩
      have hd : decide (P = G ++ R) = true := by simpa using HPP.out
      rw [hd]
      clear hd
      go_wp2_with fail
      refine (ring_lives _).mono ?_
      rintro e w7 ⟨rfl, hu7⟩
      have U7 := Lib.hid hu7
      clear hu7
      go_wp2_with fail
      go_ret
      exact ⟨rfl, ((HS5.out.upd.drewN q6).trans U7.out (fun _ _ h => h.elim)).nowhere⟩

end Go.Proofs.Ytcjneckhaempkaa.RingOrder
