/- TreeBack2, one behind the other. -/
import Derived.Test.YtllfloapiliheaaDoorMTreeAB
import Derived.Deep.RegionHeld3
namespace Go.Proofs.YtllfloapiliheaaDoor.Tree
open Go.RowKit Go.Proofs BigFrame
set_option maxHeartbeats 4000000
set_option maxRecDepth 1000000
section
variable {w0 w : World} {La Lb : Lay} {sh : Sh} {sa sb s' : TS} {ca cb XB : Nat} {x : Act}
abbrev two (XB : Nat) (x : Act) (Lb La : Lay) (sh : Sh) (sb : TS) (cb : Nat) (sa : TS) (ca : Nat) : List Comp := [blkC XB (actA x) TAct, treeC Lb sh 100 sb cb, treeC La sh 100 sa ca]
theorem back_a (h : Made w0 w (two XB x Lb La sh sb cb sa ca)) (E : Env w0) (hs : sh.Ok) (hc : ca + 20000000 < 18446744073709551615) {t : Nat} (ht : t ≤ 18446744073709551615) (leaf : Int) (a b d : Nat) (ha : a < 4294967296) (hb : b < 4294967296) (hd : d ≤ 18446744073709551615) {v : Nat} (hv : push sh 100 sa t leaf (a, b, d) = (v, s')) :
    Calls Tryd.prog 14 #[.pointer (some ⟨La.b, 0, none⟩), .int .u64 (t : Nat), .int .i64 leaf, .agg #[.int .u32 a, .int .u32 b, .int .u64 d]] w fun e w' => e = .returned (.int .i64 (v : Nat)) ∧ Made w0 w' (two XB x Lb La sh sb cb s' (ca + 10000000)) :=
  m_push [blkC XB (actA x) TAct, treeC Lb sh 100 sb cb] [] h E hs (by omega) hc ht leaf a b d ha hb hd hv
theorem back_b (h : Made w0 w (two XB x Lb La sh sb cb sa ca)) (E : Env w0) (hs : sh.Ok) (hc : cb + 20000000 < 18446744073709551615) {t : Nat} (ht : t ≤ 18446744073709551615) (leaf : Int) (a b d : Nat) (ha : a < 4294967296) (hb : b < 4294967296) (hd : d ≤ 18446744073709551615) {v : Nat} (hv : push sh 100 sb t leaf (a, b, d) = (v, s')) :
    Calls Tryd.prog 14 #[.pointer (some ⟨Lb.b, 0, none⟩), .int .u64 (t : Nat), .int .i64 leaf, .agg #[.int .u32 a, .int .u32 b, .int .u64 d]] w fun e w' => e = .returned (.int .i64 (v : Nat)) ∧ Made w0 w' (two XB x Lb La sh s' (cb + 10000000) sa ca) :=
  m_push [blkC XB (actA x) TAct] [treeC La sh 100 sa ca] h E hs (by omega) hc ht leaf a b d ha hb hd hv
end
theorem back_walk (ad : Option Addr) (cp : Nat) (nl : List Nd) (ad2 : Option Addr) (c2 : Nat) (l : List Act) (w : World) (E : Env w) (hn : NodesAt w ad nl) (hg : goodN nl = true) (hfn : FitN nl) (h40 : nl.length ≤ 40) (h150 : l.length ≤ 150) (ha : Acts w ad2 l) (hok : ∀ a ∈ l, a.Ok) :
    Calls Tryd.prog 6 #[.slice ad nl.length cp, .slice ad2 l.length c2] w fun e w' => e = .returned (.bool true) ∧ Upd Nowhere w w' := by
  obtain ⟨g0, g1, g2⟩ := goodN_true hg
  have hsh := shOf_ok g2 g0 g1 hfn
  have hf := far_ok ad nl.length cp ad2 l.length c2 w
  rw [decide_eq_false (by omega)] at hf
  have HFA := Lib.hid hf
  have HN1 := Lib.hid (m_new (room := 100) (cp := cp) (Made.start w) E hn g0 g1 g2 (by omega) (by omega))
  have HN2 := fun u lc (hm : Made w u lc) => Lib.hid (m_new (room := 100) (cp := cp) hm E (NodesAt.old hn hm.upd) g0 g1 g2 (by omega) (by omega))
  have HL := fun u (hu : Upd Nowhere w u) => Lib.hid (lives u (E.old hu))
  obtain ⟨n, hnl⟩ : ∃ n, l.length = n := ⟨_, rfl⟩
  obtain ⟨sh, hsh2⟩ : ∃ sh, shOf nl = sh := ⟨_, rfl⟩
  rw [hsh2] at hsh HN1 HN2
  rw [hnl] at HFA h150 ⊢
  have HE := Lib.hid E
  have HA := Lib.hid ha
  have HO := Lib.hid hok
  have HNL := Lib.hid hnl
  have HS := Lib.hid hsh
  clear E hn hg hfn g2 hf ha hok hnl hsh hsh2
  go_enter Tryd.func6, Tryd.ntmps6
  go_wp2_with fail
  refine (HFA.out).mono ?_
  rintro e w1 ⟨rfl, rfl⟩
  go_wp2_with fail
  refine (HN1.out).mono ?_
  rintro e w2 ⟨La, rfl, h2⟩
  have HN2' := Lib.hid (HN2 _ _ h2).out
  clear h2 HN1 HN2 HFA
  go_wp2_with fail
  refine (HN2'.out).mono ?_
  rintro e w3 ⟨Lb, rfl, h3⟩
  have H3 := Lib.hid h3
  clear h3 HN2'
  go_wp2_with fail
  go_loopw [9, 43] (fun vn i wr => ∃ k : Nat, ∃ N s, i = .int .i64 k ∧ vn = .int .u64 (N : Nat) ∧ k ≤ n ∧ N ≤ 18446744073709551615 ∧ s.now = N ∧ Made w wr [treeC Lb sh 100 s (k * 10000000), treeC La sh 100 s (k * 10000000)]) (fun _ i _ => n - (intOf i).toNat)
  case atStart => exact ⟨0, 0, s0, rfl, rfl, Nat.zero_le _, Nat.zero_le _, rfl, H3.out⟩
  case round =>
    obtain ⟨k, N, s, rfl, rfl, hk, hN, hnow, hM⟩ := hrel
    obtain ⟨wB, rfl⟩ : ∃ x, x = wr := ⟨_, rfl⟩
    clear H3
    by_cases hlt : k < n
    · have hI : (k : Int) < n := by omega
      obtain ⟨x, hx⟩ : ∃ x, l[k]? = some x := ⟨l[k]'(by rw [HNL.out]; exact hlt), by simp⟩
      obtain ⟨o1, o2, o3, o4⟩ := HO.out x (List.mem_of_getElem? hx)
      obtain ⟨ga, oa, rfl, ⟨r0, r1, r2, r3, r4, r5⟩, ⟨r1', r2', r3', r4', r5'⟩⟩ := HA.out.get hM.upd hx
      obtain ⟨_, _, hgs⟩ := m_tree [treeC Lb sh 100 s (k * 10000000)] [] hM
      have hM1 := m_blk hM (actA x) TAct
      obtain ⟨p, t, nd, fl, id, len⟩ := x
      simp only at r0 r1 r2 r3 r4 r5 r1' r2' r3' r4' r5' o1 o2 o3 o4
      obtain ⟨N2, hN2⟩ : ∃ N2, max N t = N2 := ⟨_, rfl⟩
      have hM2 : max (N : Int) (t : Int) = (N2 : Int) := by omega
      have hM4 : (if (N : Int) < (t : Int) then (t : Int) else (N : Int)) = (N2 : Int) := by split <;> omega
      have hM5 : (if N < t then (t : Int) else (N : Int)) = (N2 : Int) := by split <;> omega
      have hN3 : N2 ≤ 18446744073709551615 := by omega
      have hsame : max s.now t = max s.now N2 := by omega
      have hmx : max s.now t = N2 := by omega
      have HGS := Lib.hid hgs
      have HSM := Lib.hid hsame
      have HMX := Lib.hid hmx
      obtain ⟨XB, hXB⟩ : ∃ XB, wB.heap.size = XB := ⟨_, rfl⟩
      rw [hXB] at hM1
      have HM1 := Lib.hid hM1
      have HXB := Lib.hid hXB
      clear hM hM1 hgs hsame hmx hx hN2 hnow hXB
      go_upto_region 11 with fail
      have hXB := HXB.out
      try simp only [hXB]
      clear hXB
      generalize wB.alloc (.cells #[.bool p, .int .u64 t, .int .i64 nd, .int .u32 fl, .int .u32 id, .int .u64 len] TAct) = w4 at *
      have hc0 : w4.cell? ⟨XB, 0, none⟩ = some (.bool p) := by
        obtain ⟨o, h1, _, _⟩ := Made.foc (blkC XB _ TAct) [treeC Lb sh 100 s (k * 10000000), treeC La sh 100 s (k * 10000000)] [] HM1.out
        exact h1.1.cellAt rfl
      obtain ⟨x1, x2, x3, x4, x5⟩ := x_cells HM1.out
      simp only at x1 x2 x3 x4 x5
      clear r0 r1 r2 r3 r4 r5 r1' r2' r3' r4' r5'
      have hkk : k * 10000000 + 20000000 < 18446744073709551615 := by omega
      have hkk2 : (k + 1) * 10000000 = k * 10000000 + 10000000 := Nat.succ_mul k _
      cases p with
      | true =>
        obtain ⟨⟨pa, pb, pc⟩, v, s', hv⟩ : ∃ p v s', pop sh s t = (p, v, s') := ⟨_, _, _, rfl⟩
        have hv2 : pop sh s N2 = ((pa, pb, pc), v, s') := by rw [← pop_same HSM.out]; exact hv
        have hnow2 : s'.now = N2 := by
          have := pop_at HS.out HGS.out o1
          rw [hv] at this; exact this.trans HMX.out
        have HNW := Lib.hid hnow2
        go_wp2_with fail
        refine (m_pop [blkC XB _ TAct, treeC Lb sh 100 s (k * 10000000)] [] HM1.out HE.out HS.out (by omega) hkk o1 hv).mono ?_
        rintro e w5 ⟨rfl, h5⟩
        have h5 := m_blk h5 #[.int .u32 pa, .int .u32 pb, .int .u64 pc] TPk
        clear hc0 x1 x2 x3 x4 x5
        go_upto_region 14 with fail
        generalize w5.alloc (.cells #[.int .u32 pa, .int .u32 pb, .int .u64 pc] TPk) = w6 at *
        generalize w5.heap.size = PB at *
        go_wp2_with fail
        refine (m_pop [blkC PB _ TPk, blkC XB _ TAct] [treeC La sh 100 s' (k * 10000000 + 10000000)] h5 HE.out HS.out (by omega) hkk hN3 hv2).mono ?_
        rintro e w7 ⟨rfl, h7⟩
        have h7 := m_blk h7 #[.int .u32 pa, .int .u32 pb, .int .u64 pc] TPk
        clear h5
        go_upto_region 15 with fail
        generalize w7.alloc (.cells #[.int .u32 pa, .int .u32 pb, .int .u64 pc] TPk) = w8 at *
        generalize w7.heap.size = QB at *
        obtain ⟨_, hq, _, _⟩ := Made.foc (blkC QB #[.int .u32 pa, .int .u32 pb, .int .u64 pc] TPk) _ [] h7
        obtain ⟨_, hp, _, _⟩ := Made.foc (blkC PB #[.int .u32 pa, .int .u32 pb, .int .u64 pc] TPk) _ [_] h7
        obtain ⟨q0, q1, q2, -⟩ := cells3 hq.1
        obtain ⟨p0, p1, p2, -⟩ := cells3 hp.1
        have H8 := Lib.hid h7.drop.drop.drop
        clear h7 hq hp
        have e2 : ((v : Int) == (v : Int)) = true := by simp
        have e3 : ((v : Int) != (v : Int)) = false := by simp
        obtain ⟨_, hta, _⟩ := m_tree [treeC Lb sh 100 s' (k * 10000000 + 10000000)] [] H8.out
        obtain ⟨_, htb, _⟩ := m_tree [] [treeC La sh 100 s' (k * 10000000 + 10000000)] H8.out
        have hna := now_ok hta
        have hnb := now_ok htb
        rw [HNW.out] at hna hnb
        have HNA := Lib.hid hna
        have HNB := Lib.hid hnb
        have e4 : ((N2 : Int) == (N2 : Int)) = true := by simp
        have e5 : ((N2 : Int) != (N2 : Int)) = false := by simp
        clear hta htb hna hnb
        go_wp2_with fail
        refine (HNA.out).mono ?_
        rintro e w9 ⟨rfl, rfl⟩
        go_wp2_with fail
        refine (HNB.out).mono ?_
        rintro e w9 ⟨rfl, rfl⟩
        go_wp2_with fail
        refine (HNA.out).mono ?_
        rintro e w9 ⟨rfl, rfl⟩
        go_wp2_with fail
        go_roundw
        case rel => exact ⟨k + 1, N2, s', by first | rfl | go_num, rfl, by omega, hN3, HNW.out, by rw [hkk2]; exact H8.out⟩
        case measure => simp [intOf]; omega
      | false =>
        obtain ⟨v, s', hv⟩ : ∃ v s', push sh 100 s t nd (fl, id, len) = (v, s') := ⟨_, _, rfl⟩
        have hv2 : push sh 100 s N2 nd (fl, id, len) = (v, s') := by rw [← push_same HSM.out]; exact hv
        have hnow2 : s'.now = N2 := by
          have := push_at HS.out HGS.out o1 nd (fl, id, len) o2 o3
          rw [hv] at this; exact this.trans HMX.out
        have HNW := Lib.hid hnow2
        have e2 : ((v : Int) == (v : Int)) = true := by simp
        have e3 : ((v : Int) != (v : Int)) = false := by simp
        have HAd := HM1.out.old ((Upd.refl Nowhere w4).drew)
        go_upto_region 17 with fail
        go_region_held3 (fun w' => w'.cell? ⟨XB, 1, none⟩ = some (.int .u64 t) ∧ w'.cell? ⟨XB, 2, none⟩ = some (.int .i64 nd) ∧ w'.cell? ⟨XB, 3, none⟩ = some (.int .u32 fl) ∧ w'.cell? ⟨XB, 4, none⟩ = some (.int .u32 id) ∧ w'.cell? ⟨XB, 5, none⟩ = some (.int .u64 len)) (first | exact ⟨x1, x2, x3, x4, x5⟩ | assumption) (first
          | (go_at_call 14; (first
            | (with_reducible refine (back_a h12 HE.out HS.out hkk o1 nd fl id len o2 o3 o4 hv).mono ?_; rintro e w11 ⟨rfl, h11⟩; have hS11 := x_cells h11)
            | (with_reducible refine (back_b h11 HE.out HS.out hkk hN3 nd fl id len o2 o3 o4 hv2).mono ?_; rintro e w12 ⟨rfl, h12⟩; have hS12 := x_cells h12)
            | (with_reducible refine (back_a HAd HE.out HS.out hkk o1 nd fl id len o2 o3 o4 hv).mono ?_; rintro e w11 ⟨rfl, h11⟩; have hS11 := x_cells h11)
            | (with_reducible refine (back_b HAd HE.out HS.out hkk hN3 nd fl id len o2 o3 o4 hv2).mono ?_; rintro e w12 ⟨rfl, h12⟩; have hS12 := x_cells h12))))
        all_goals
          first
            | (have H8 : Hid (Made w w12 [treeC Lb sh 100 s' (k * 10000000 + 10000000), treeC La sh 100 s' (k * 10000000 + 10000000)]) := Lib.hid h12.drop; clear h11 h12)
            | (have H8 : Hid (Made w w11 [treeC Lb sh 100 s' (k * 10000000 + 10000000), treeC La sh 100 s' (k * 10000000 + 10000000)]) := Lib.hid h11.drop; clear h11 h12)
          clear hS11 hS12 HAd hc0 x1 x2 x3 x4 x5
          obtain ⟨_, hta, _⟩ := m_tree [treeC Lb sh 100 s' (k * 10000000 + 10000000)] [] H8.out
          obtain ⟨_, htb, _⟩ := m_tree [] [treeC La sh 100 s' (k * 10000000 + 10000000)] H8.out
          have hna := now_ok hta
          have hnb := now_ok htb
          rw [HNW.out] at hna hnb
          have HNA := Lib.hid hna
          have HNB := Lib.hid hnb
          have e4 : ((N2 : Int) == (N2 : Int)) = true := by simp
          have e5 : ((N2 : Int) != (N2 : Int)) = false := by simp
          clear hta htb hna hnb
          go_wp2_with fail
          refine (HNA.out).mono ?_
          rintro e w9 ⟨rfl, rfl⟩
          go_wp2_with fail
          refine (HNB.out).mono ?_
          rintro e w9 ⟨rfl, rfl⟩
          go_wp2_with fail
          refine (HNA.out).mono ?_
          rintro e w9 ⟨rfl, rfl⟩
          go_wp2_with fail
          go_roundw
          case rel => exact ⟨k + 1, N2, s', by first | rfl | go_num, rfl, by omega, hN3, HNW.out, by rw [hkk2]; exact H8.out⟩
          case measure => simp [intOf]; omega
    · obtain rfl : k = n := by omega
      have hI : ¬ (k : Int) < k := by omega
      have hlv := Lib.hid (HL _ hM.upd).out
      have hu := hM.upd
      clear hM HL
      go_wp2_with fail
      refine hlv.out.mono ?_
      rintro e w9 ⟨rfl, u9⟩
      go_wp2_with fail
      go_ret
      exact ⟨rfl, hu.trans u9 (fun _ _ h => h)⟩
theorem back_law (v : Value) (nl : List Nd) (hfn : ∀ a ∈ nl, a.wt ≤ 18446744073709551615 ∧ a.gap ≤ 18446744073709551615) (v2 : Value) (l : List Act) (hok : ∀ a ∈ l, a.later ≤ 18446744073709551615 ∧ a.fl ≤ 4294967295 ∧ a.id ≤ 4294967295 ∧ a.len ≤ 18446744073709551615) (w : World) (hv : RowsAt w v nl.length (nl.flatMap nd)) (hv2 : RowsAt w v2 l.length (l.flatMap act)) (E : Env w) :
    Calls Tryd.prog 6 #[v, v2] w fun e w' => e = .returned (.bool true) ∧ Upd Nowhere w w' := by
  obtain ⟨ad, c, rfl, hn⟩ := nodes_of hv
  obtain ⟨ad2, c2, rfl, ha⟩ := acts_of hv2
  have hok2 : ∀ a ∈ l, a.Ok := fun a h => ⟨(hok a h).1, Nat.lt_succ_of_le (hok a h).2.1, Nat.lt_succ_of_le (hok a h).2.2.1, (hok a h).2.2.2⟩
  by_cases h : (decide (40 < nl.length ∨ 150 < l.length) || !goodN nl) = true
  · exact back_no ad c nl ad2 l.length c2 w E hn h
  · have h1 : ¬ (40 < nl.length ∨ 150 < l.length) := fun h9 => h (by rw [decide_eq_true h9]; rfl)
    have h2 : goodN nl = true := by revert h; cases goodN nl <;> simp
    exact back_walk ad c nl ad2 c2 l w E hn h2 hfn (by omega) (by omega) ha hok2
end Go.Proofs.YtllfloapiliheaaDoor.Tree
