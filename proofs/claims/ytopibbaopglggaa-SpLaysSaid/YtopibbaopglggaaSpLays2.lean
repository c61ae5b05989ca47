/- SpLays: the walk. -/
import Derived.Test.YtopibbaopglggaaSpLays
namespace Go.Proofs.Ytopibbaopglggaa.SpI
open Go.RowKit Go.Proofs BigFrame
open PairI (TR TE el flat)
open Ref12 (Ref RefOf TQ TL TI mayC Nest NestOf layC infoI infoL)
set_option maxHeartbeats 1000000
set_option maxRecDepth 1000000
abbrev Ac := Nat × Nat × Int
theorem infoIt : (Try.prog.info? TIt).map (fun i => (i.zero, i.size, i.bytes)) = some (some (.agg #[.int .u64 0, .int .i64 0]), 2, 16) := by kernel_rfl
theorem infoLt : (Try.prog.info? TLt).map (fun i => (i.zero, i.size, i.bytes)) = some (some (.slice none 0 0), 1, 24) := by kernel_rfl
/-- The items of acts. -/
def its (l : List Ac) : List (Nat × Int) := l.map fun a => (a.2.1, a.2.2)
theorem its_len (l : List Ac) : (its l).length = l.length := by simp [its]
/-- Rows of acts in a row, as an argument. -/
structure Qs (w : World) (ad : Option Addr) (n : Nat) (qv : Nat → Value) (Q : Nat → List Ac) : Prop where
  nil : ad = none → n = 0
  cell : ∀ g, ad = some g → ∀ i, i < n → g.spot = none ∧ w.cell? ⟨g.block, g.off + i, none⟩ = some (qv i)
  row : ∀ i, i < n → RowsAt w (qv i) (Q i).length ((Q i).flatMap act)
theorem Qs.at {w : World} {ad : Option Addr} {n : Nat} {qv : Nat → Value} {Q : Nat → List Ac} (h : Qs w ad n qv Q) {i : Nat} (hi : i < n) : ∃ g o, ad = some ⟨g, o, none⟩ ∧ ∀ i, i < n → w.cell? ⟨g, o + i, none⟩ = some (qv i) := by
  cases ad with
  | none => have := h.nil rfl; omega
  | some a =>
    have hs := (h.cell a rfl i hi).1
    obtain ⟨g, o, sp⟩ := a
    simp only at hs
    subst hs
    exact ⟨g, o, rfl, fun i hi => (h.cell _ rfl i hi).2⟩
theorem lays_ok (w : World) (adb : Option Addr) (nb cb : Nat) (f : Nat → Nat) (hf : Nums w adb nb f) (hf64 : ∀ i, i < nb → f i ≤ 18446744073709551615) (hgb : 0 < nb → ∀ g, adb = some g → g.block < w.heap.size) (hnb : nb ≤ 40)
    (ad1 : Option Addr) (nq c1 : Nat) (qv : Nat → Value) (Q : Nat → List Ac) (hq : Qs w ad1 nq qv Q) (hnq : nq ≤ 40)
    (adh : Option Addr) (ch : Nat) (bh : List Ac) (hbl : bh.length ≤ 40) (hb : ∀ (i : Nat) (a : Ac), bh[i]? = some a → a.1 ≤ 255 ∧ a.2.1 ≤ 18446744073709551615)
    (ha0 : adh = none → bh.length = 0) (haa : ∀ b, adh = some b → ∀ (j : Nat) (v : Value), (bh.flatMap act)[j]? = some v → b.spot = none ∧ w.cell? ⟨b.block, b.off + j, none⟩ = some v) :
    Calls Try.prog 11 #[.slice adb nb cb, .slice ad1 nq c1, .slice adh bh.length ch] w fun e w' => e = .returned (.bool true) ∧ Upd Nowhere w w' := by
  obtain ⟨a0, ha, ha0', ha1, ha2⟩ := info_parts infoIt
  obtain ⟨b0, hb1, hb2, hb3, hb4⟩ := info_parts infoI
  obtain ⟨d0, hd1, hd2, hd3, hd4⟩ := info_parts infoLt
  obtain ⟨f0, hf1, hf2, hf3, hf4⟩ := info_parts infoL
  obtain ⟨N, hN⟩ : ∃ N, bh.length = N := ⟨_, rfl⟩
  rw [hN] at hbl ⊢
  obtain ⟨mx, hmx⟩ : ∃ mx, max nb 1 = mx := ⟨_, rfl⟩
  have hmx1 : 1 ≤ mx ∧ mx ≤ 40 := by omega
  obtain ⟨m1, hm1⟩ : ∃ m1, mx = m1 + 1 := ⟨mx - 1, by omega⟩
  obtain ⟨kk, hkk⟩ : ∃ kk, m1 % 32 = kk := ⟨_, rfl⟩
  obtain ⟨n, hn⟩ : ∃ n, kk + 1 = n := ⟨_, rfl⟩
  have hn1 : 0 < n ∧ n ≤ 32 := by omega
  have t0 : decide ((nq : Int) > 40) = false := decide_eq_false (by omega)
  have t1 : decide (40 < (nq : Int)) = false := decide_eq_false (by omega)
  have t2 : decide ((nb : Int) > 40) = false := decide_eq_false (by omega)
  have t3 : decide (40 < (nb : Int)) = false := decide_eq_false (by omega)
  have t4 : decide ((N : Int) > 40) = false := decide_eq_false (by omega)
  have t5 : decide (40 < (N : Int)) = false := decide_eq_false (by omega)
  have e1 : (if (nb : Int) < 1 then (1 : Int) else nb) = (mx : Int) := by split <;> omega
  have e1' : max (nb : Int) 1 = (mx : Int) := by omega
  have e2 : IntKind.i64.wrap ((mx : Int) - 1) = (m1 : Int) := by rw [IntKind.wrap_i64]; omega
  have e3 : ((m1 : Int) % 32) = (kk : Int) := by omega
  have e5 : IntKind.u64.wrap (m1 : Int) = (m1 : Int) := by simp [IntKind.wrap, IntKind.bits, IntKind.signed]; omega
  have e6 : ((m1 : Int)).tmod 32 = (kk : Int) := by rw [Int.tmod_eq_emod_of_nonneg (by omega)]; omega
  have e7 : IntKind.i64.wrap (kk : Int) = (kk : Int) := by rw [IntKind.wrap_i64]; omega
  have e4 : IntKind.i64.wrap ((kk : Int) + 1) = (n : Int) := by rw [IntKind.wrap_i64]; omega
  have Hnew := Lib.hid (has_new w 60 n (by omega) (by omega) hn1.1 hn1.2)
  have HF := Lib.hid hf
  have HF64 := Lib.hid hf64
  have HGB := Lib.hid hgb
  have HQ := Lib.hid hq
  have HNN := Lib.hid hN
  have HB := Lib.hid hb
  have HA0 := Lib.hid ha0
  have HA := Lib.hid haa
  have HMX := Lib.hid hmx
  have HKK := Lib.hid hkk
  have HM1 := Lib.hid hm1
  have HNK := Lib.hid hn
  have h1n := hn1.1
  have h32 := hn1.2
  clear hf hf64 hgb hq hN hb ha0 haa hmx hkk hm1 hn hn1 hmx1
  go_enter Try.func11, Try.ntmps11
  go_wp2_with fail
  refine (Hnew.out).mono ?_
  rintro e w1 ⟨s, rfl, hh⟩
  have HH := Lib.hid hh
  clear Hnew hh
  go_wp2_with fail
  refine (Ref12.new_any w1 60 n h32).mono ?_
  rintro e w3 ⟨bv, lv, rfl, hr3, hu3⟩
  obtain ⟨b, hbb⟩ : ∃ b, w1.heap.size = b := ⟨_, rfl⟩
  have hw1 : Upd Nowhere w w1 := HH.out.upd
  have hst : Pl none #[] w w3 s b 60 n 0 (fun _ => 0) (fun _ => []) (fun _ => 0) (fun _ => []) := by
    have hr4 : Ref w.heap.size w3 b 60 n bv lv (fun _ => .slice none 0 0) (fun _ => 0) (fun _ => []) := by
      rw [hbb] at hr3
      exact { hr3 with bnd := ownsRow_base hr3.bnd (by have := hw1.size; omega), lst := ownsRow_base hr3.lst (by have := hw1.size; omega), row := fun i hi => PRow.nil _ _ _, low := by have := hw1.size; have := hr3.low; omega }
    refine ⟨bv, lv, _, ⟨((HH.out.off.re (A' := Offs b n bv lv (fun _ => .slice none 0 0) none) (fun k hk => ?_)).old hu3), hr4, hw1.trans hu3 (fun _ _ h => h), (fun q hq => by cases hq), h1n, h32, by omega⟩⟩
    rcases hk with hk | hk
    · have := (hr3.lts (by rw [hbb]; exact hk)).1; exact .inr this
    · cases hk
  rw [hbb]
  have HST := Lib.hid hst
  clear HH hr3 hu3 hw1 hbb hst
  go_wp2_with fail
  refine (t_push HST.out (by omega) 7 (by omega) 7).mono ?_
  rintro e w4 ⟨rfl, h4⟩
  have H4 := Lib.hid h4
  clear h4
  go_wp2_with fail
  refine (t_rpush H4.out (by rw [HST.out.tot_]; omega) HST.out.fit 7 (by omega) 7).mono ?_
  rintro e w5 ⟨rfl, h5⟩
  obtain ⟨bs5, ps5, hp5⟩ : ∃ bs5 ps5, Pl none #[] w w5 s b 60 n (0 + 1) bs5 ps5 bs5 ps5 := ⟨_, _, h5⟩
  have HP5 := Lib.hid hp5
  clear h5 hp5 H4 HST
  obtain ⟨q, hqd⟩ : ∃ q : Nat → List (Nat × Int), (fun x => its (Q x)) = q := ⟨_, rfl⟩
  have HQD := Lib.hid hqd
  clear hqd
  go_wp2_with fail
  go_loopw [12, 13, 60] (fun lv rv iv wr => ∃ (i : Nat) (v1 v2 : Nat → Value), i ≤ nq ∧ iv = .int .i64 i ∧ (∀ x, x < i → (Q x).length ≤ 100) ∧ Nn w5 wr lv rv v1 v2 q i) (fun _ _ iv _ => nq - (intOf iv).toNat)
  case atStart => exact ⟨0, fun _ => .slice none 0 0, fun _ => .slice none 0 0, by omega, rfl, (fun x hx => absurd hx (Nat.not_lt_zero _)), Nest.nil _ _ _ _ _ _, Nest.nil _ _ _ _ _ _, (fun k hk => by
    rcases hk with hk | ⟨x, hx, _⟩
    · cases hk
    · omega), Upd.refl _ _⟩
  case round =>
    obtain ⟨i, v1, v2, hi, rfl, hsm, hNn⟩ := hrel
    obtain ⟨wO, rfl⟩ : ∃ x, x = wr := ⟨_, rfl⟩
    obtain ⟨al1, cl1, rfl⟩ := Ref12.own_form hNn.n1.lst
    obtain ⟨al2, cl2, rfl⟩ := Ref12.own_form hNn.n2.lst
    have HNn := Lib.hid hNn
    have HSM := Lib.hid hsm
    have HUO := Lib.hid (HP5.out.upd.trans hNn.kp (fun _ _ h => h))
    clear hNn hsm
    by_cases hlt : i < nq
    · have hI : (i : Int) < nq := by omega
      obtain ⟨g1, o1, rfl, hcq⟩ := HQ.out.at hlt
      have kq := cell_old HUO.out (hcq i hlt)
      have hrow := HQ.out.row i hlt
      obtain ⟨aq, cq, hqv, hq0, _, _, hqc⟩ := hrow
      rw [hqv] at kq
      obtain ⟨m, hm⟩ : ∃ m, (Q i).length = m := ⟨_, rfl⟩
      rw [hm] at kq hq0
      have HM := Lib.hid hm
      have HQC := Lib.hid hqc
      have HQ0 := Lib.hid hq0
      clear hcq hqv hqc hq0 hm
      by_cases hbig : 100 < m
      · have d1 : decide ((m : Int) > 100) = true := decide_eq_true (by omega)
        have d2 : decide (100 < (m : Int)) = true := decide_eq_true (by omega)
        clear hbig
        go_wp2_with fail
        refine ((Sp.lives _)).mono ?_
        rintro e w' ⟨rfl, hu⟩
        go_wp2_with fail
        go_ret
        exact ⟨rfl, HUO.out.trans hu (fun _ _ h => h)⟩
      · have d1 : decide ((m : Int) > 100) = false := decide_eq_false (by omega)
        have d2 : decide (100 < (m : Int)) = false := decide_eq_false (by omega)
        have hm100 : m ≤ 100 := by omega
        clear hbig
        go_wp2_with fail
        go_loopw [16, 17, 70] (fun ov tv jv wr => ∃ (j : Nat), j ≤ m ∧ jv = .int .i64 j ∧ Tw wO wr ov tv ((its (Q i)).take j)) (fun _ _ jv _ => m - (intOf jv).toNat)
        case atStart => exact ⟨0, by omega, rfl, Tw.start _⟩
        case round =>
          obtain ⟨j, hj, rfl, hTw⟩ := hrel
          obtain ⟨wB, rfl⟩ : ∃ x, x = wr := ⟨_, rfl⟩
          have htl : ((its (Q i)).take j).length = j := by rw [List.length_take, its_len, HM.out]; omega
          obtain ⟨ao, co, rfl⟩ := hTw.r1.form
          obtain ⟨at2, ct, rfl⟩ := hTw.r2.form
          have HTw := Lib.hid hTw
          rw [htl] at HTw ⊢
          have HTL := Lib.hid htl
          clear hTw htl
          by_cases hlt2 : j < m
          · have hJ : (j : Int) < m := by omega
            obtain ⟨⟨K, R, X⟩, hx⟩ : ∃ a, (Q i)[j]? = some a := ⟨(Q i)[j]'(by rw [HM.out]; exact hlt2), by simp⟩
            obtain ⟨ga, oa, rfl⟩ : ∃ ga oa, aq = some ⟨ga, oa, none⟩ := by
              cases aq with
              | none => have := (HQ0.out rfl).1; omega
              | some b' =>
                have hs := (HQC.out b' rfl _ _ (act_at hx (j := 0) rfl)).1
                obtain ⟨g, o, sp⟩ := b'
                simp only at hs
                subst hs
                exact ⟨g, o, rfl⟩
            have hUB : Upd Nowhere w wB := HUO.out.trans HTw.out.kp (fun _ _ h => h)
            have r0 : wB.cell? ⟨ga, oa + j * 3, none⟩ = some (.int .u8 K) := cell_old hUB (HQC.out _ rfl _ _ (act_at hx (j := 0) rfl)).2
            have r1 : wB.cell? ⟨ga, oa + (j * 3 + 1), none⟩ = some (.int .u64 R) := cell_old hUB (HQC.out _ rfl _ _ (act_at hx (j := 1) rfl)).2
            have r2 : wB.cell? ⟨ga, oa + (j * 3 + 2), none⟩ = some (.int .i64 X) := cell_old hUB (HQC.out _ rfl _ _ (act_at hx (j := 2) rfl)).2
            have r1' : wB.cell? ⟨ga, oa + j * 3 + 1, none⟩ = some (.int .u64 R) := by rw [Nat.add_assoc]; exact r1
            have r2' : wB.cell? ⟨ga, oa + j * 3 + 2, none⟩ = some (.int .i64 X) := by rw [Nat.add_assoc]; exact r2
            have hnext : (its (Q i)).take (j + 1) = (its (Q i)).take j ++ [(R, X)] := by
              rw [List.take_add_one]
              have h9 : (its (Q i))[j]? = some (R, X) := by unfold its; rw [List.getElem?_map, hx]; rfl
              rw [h9]; rfl
            have HNX := Lib.hid hnext
            clear hx hnext hUB
            go_upto_region 23 with fail
            have hX : Blk (wB.alloc (.cells #[.int .u8 K, .int .u64 R, .int .i64 X] TA)) wB.heap.size #[.int .u8 K, .int .u64 R, .int .i64 X] TA := Blk.new _ _ _
            have HTa := Lib.hid (HTw.out.old ((Upd.refl Nowhere wB).alloc (.cells #[.int .u8 K, .int .u64 R, .int .i64 X] TA)))
            obtain ⟨wA, hwA⟩ : ∃ wA, wB.alloc (.cells #[.int .u8 K, .int .u64 R, .int .i64 X] TA) = wA := ⟨_, rfl⟩
            rw [hwA] at hX HTa ⊢
            have hso1 : ∀ k, (Value.slice ao j co).ownBlock = some k → k ≠ wB.heap.size := fun k hk e => by
              have h9 := HTw.out.r1
              have := (World.ownsRow.lt h9 k hk).2; omega
            have HSO1 := Lib.hid hso1
            have HXa := Lib.hid hX
            obtain ⟨x0, x1, x2, yx0, yx1, yx2⟩ := cells3 hX
            have hszO := HTa.out.kp.size
            have HRA := Lib.hid (show wA.ownsRow wO.heap.size TIt 2 (.slice ao j co) j (pcs ((its (Q i)).take j)) by have h9 := HTa.out.r1; unfold PRow at h9; rw [HTL.out] at h9; exact h9)
            clear r0 r1 r2 r1' r2' hwA hX hso1
            go_upto_region 24 with (at_builtin; refine wpList_push rfl _ _ 92 rfl wO.heap.size TIt a0 (.agg #[.int .u64 0, .int .i64 0]) 2 16 Try.underlying92 ha ha0' ha1 ha2 rfl (by decide) (by decide) (.slice ao j co) j _ rfl (ownsRow_upd HRA.out ((Upd.refl _ _).alloc _) (fun _ _ h => h)) wA.heap.size 1 [.int .u64 R, .int .i64 X] rfl rfl (new_cells wA #[_, _] _) (by simp [Value.oneCell']) (by omega) (by simp; omega) ?_; intro v6 w6 hown hu hno; have h1 := HTa.out.one ((Upd.refl Nowhere wA).alloc (.cells #[.int .u64 R, .int .i64 X] TIt)) (R, X) HTL.out hown hu hno; have HX6 := Lib.hid ((HXa.out.alloc (.cells #[.int .u64 R, .int .i64 X] TIt)).kept hu (fun e => HSO1.out _ e rfl)); have H1 := Lib.hid h1; obtain ⟨ao6, co6, rfl⟩ := Ref12.own_form hown; clear hown hu hno h1)
            clear x0 x1 x2 yx0 yx1 yx2
            obtain ⟨x0, x1, x2, yx0, yx1, yx2⟩ := cells3 HX6.out
            have hszO6 := H1.out.2.2.2.size
            have HRB := Lib.hid (show w6.ownsRow wO.heap.size TI 2 (.slice at2 j ct) j (pcs ((its (Q i)).take j)) by have h9 := H1.out.2.1; unfold PRow at h9; rw [HTL.out] at h9; exact h9)
            go_wp2_with (at_builtin; refine wpList_push rfl _ _ 93 rfl wO.heap.size TI b0 (.agg #[.int .u64 0, .int .i64 0]) 2 16 Try.underlying93 hb1 hb2 hb3 hb4 rfl (by decide) (by decide) (.slice at2 j ct) j _ rfl (ownsRow_upd HRB.out ((Upd.refl _ _).alloc _) (fun _ _ h => h)) w6.heap.size 1 [.int .u64 R, .int .i64 X] rfl rfl (new_cells w6 #[_, _] _) (by simp [Value.oneCell']) (by omega) (by simp; omega) ?_; intro v7 w7 hown hu hno; have h2 := Tw.two H1.out.1 H1.out.2.1 H1.out.2.2.1 H1.out.2.2.2 ((Upd.refl Nowhere w6).alloc (.cells #[.int .u64 R, .int .i64 X] TI)) (R, X) rfl HTL.out hown hu hno; have H2 := Lib.hid h2; obtain ⟨at7, ct7, rfl⟩ := Ref12.own_form hown; clear hown hu hno h2)
            go_roundw
            case rel => exact ⟨j + 1, by omega, by go_num, by rw [HNX.out]; exact H2.out⟩
            case measure => simp [intOf]; omega
          · obtain rfl : j = m := by omega
            have hfull : (its (Q i)).take j = its (Q i) := List.take_of_length_le (by rw [its_len, HM.out]; exact Nat.le_refl _)
            have hT := HTw.out
            rw [hfull] at hT
            have HT := Lib.hid hT
            have hL1 : wB.ownsRow w5.heap.size TLt 1 (.slice al1 i cl1) i (Ref12.vals v1 i) := ownsRow_upd HNn.out.n1.lst hT.kp (fun _ _ h => h)
            have hL2 : wB.ownsRow w5.heap.size TL 1 (.slice al2 i cl2) i (Ref12.vals v2 i) := ownsRow_upd HNn.out.n2.lst hT.kp (fun _ _ h => h)
            have HL1 := Lib.hid hL1
            have HL2 := Lib.hid hL2
            have hsz5 : w5.heap.size ≤ wB.heap.size := Nat.le_trans HNn.out.kp.size hT.kp.size
            clear hfull hT hL1 hL2 HTw HTL
            go_wp2_with (at_builtin; first
              | (refine wpList_push rfl _ _ 90 rfl w5.heap.size TLt d0 (.slice none 0 0) 1 24 Try.underlying90 hd1 hd2 hd3 hd4 rfl (by decide) (by decide) (.slice al1 i cl1) i _ rfl (ownsRow_upd HL1.out ((Upd.refl _ _).alloc _) (fun _ _ h => h)) wB.heap.size 1 [.slice ao j co] rfl rfl (new_cells wB #[_] _) (by simp [Value.oneCell']) (by omega) (by simp; omega) ?_; intro v8 w8 hown8 hu8 hno8; have HO8 := Lib.hid hown8; have HU8 := Lib.hid hu8; have HNO8 := Lib.hid hno8; have hsz8 := hu8.size; have HL8 := Lib.hid (ownsRow_upd (ownsRow_upd HL2.out ((Upd.refl Nowhere wB).alloc (.cells #[.slice ao j co] TLt)) (fun _ _ h => h)) hu8 (fun k hk e => HNn.out.ap k (.inl e) (.inl hk))); obtain ⟨al8, cl8, rfl⟩ := Ref12.own_form hown8; clear hown8 hu8 hno8)
              | (refine wpList_push rfl _ _ 91 rfl w5.heap.size TL f0 (.slice none 0 0) 1 24 Try.underlying91 hf1 hf2 hf3 hf4 rfl (by decide) (by decide) (.slice al2 i cl2) i _ rfl (ownsRow_upd HL8.out ((Upd.refl _ _).alloc _) (fun _ _ h => h)) w8.heap.size 1 [.slice at2 j ct] rfl rfl (new_cells w8 #[_] _) (by simp [Value.oneCell']) (by omega) (by simp at hsz8 ⊢; omega) ?_; intro v9 w9 hown9 hu9 hno9; have HNN9 := Lib.hid (Nn.push HNn.out HT.out ((Upd.refl Nowhere wB).alloc (.cells #[.slice ao j co] TLt)) HO8.out HU8.out HNO8.out ((Upd.refl Nowhere w8).alloc (.cells #[.slice at2 j ct] TL)) hown9 hu9 hno9); obtain ⟨al9, cl9, rfl⟩ := Ref12.own_form hown9; clear hown9 hu9 hno9))
            go_roundw
            case rel =>
              have hq9 : upd q i (its (Q i)) = q := by rw [← HQD.out]; exact upd_self (fun x => its (Q x)) i
              have h9 := HNN9.out
              rw [hq9] at h9
              refine ⟨i + 1, _, _, by omega, by go_num, fun x hx => ?_, h9⟩
              rcases Nat.lt_or_ge x i with h | h
              · exact HSM.out x h
              · obtain rfl : x = i := by omega
                rw [HM.out]; exact hm100
            case measure => simp [intOf]; omega
    · obtain rfl : i = nq := by omega
      have HNn' := HNn
      go_upto_region 28 with fail
      go_cut [114] (fun tt wc => tt = .bool false ∧ ∃ cnt' bs' ps', Pl none #[] w wc s b 60 n cnt' bs' ps' bs' ps')
      case first =>
        as_aux_lemma =>
          obtain ⟨bv6, lv6, vs6, hB6⟩ := Bs.of HP5.out HNn.out.kp HNn.out.n1 HNn.out.n2
          have HB6 := Lib.hid hB6
          clear hB6
          by_cases hmatch : nb = n ∧ i = n
          · obtain ⟨hm1, hm2⟩ := hmatch
            subst hm2
            have hF6 : Nums wO adb nb f := HF.out.old HUO.out
            subst hm1
            have htot : tot q nb ≤ 1000000 := by
              have h9 : ∀ k, k ≤ nb → tot q k ≤ k * 100 := fun k => by
                induction k with
                | zero => intro _; exact Nat.zero_le _
                | succ k ih =>
                  intro hk
                  have h1 := ih (by omega)
                  have h2 := HSM.out k (by omega)
                  have h3 : (q k).length = (Q k).length := by rw [← HQD.out]; exact its_len _
                  rw [tot]; omega
              have := h9 nb (Nat.le_refl _); omega
            have HBL := Lib.hid (b_lay HB6.out (by omega) hF6 HF64.out (HGB.out (by omega)) htot cb)
            have HTOT := Lib.hid htot
            obtain ⟨C, hC⟩ : ∃ C, layC f q nb 60 = C := ⟨_, rfl⟩
            have e9 : ((C : Int) != C) = false := by simp
            rw [hC] at HBL
            have HC := Lib.hid hC
            clear hF6 htot hC
            go_wp2_with fail
            refine HBL.out.mono ?_
            rintro e w7 ⟨rfl, cnt', bs', ps', hB7, hF7, hne, heq⟩
            have HRL := Lib.hid (r_lay hB7 hF7 HF64.out (HGB.out (by omega)) HTOT.out cb)
            rw [HC.out] at HRL
            have HNE := Lib.hid hne
            have HEQ := Lib.hid heq
            clear hB7 hF7 hne heq HBL
            go_wp2_with fail
            refine HRL.out.mono ?_
            rintro e w8 ⟨rfl, bs3, ps3, hP8, hne3, heq3⟩
            have h8 : Pl none #[] w w8 s b 60 nb cnt' bs' ps' bs' ps' := by
              by_cases hc : C = 0
              · obtain ⟨-, e1, e2⟩ := HEQ.out hc
                obtain ⟨e3, e4⟩ := heq3 hc
                subst e1 e2 e3 e4
                exact hP8
              · obtain ⟨-, e1, e2⟩ := HNE.out hc
                obtain ⟨e3, e4⟩ := hne3 hc
                subst e1 e2 e3 e4
                exact hP8
            have H8 := Lib.hid h8
            clear h8 hP8 hne3 heq3 HRL
            go_wp2_with fail
            refine (t_stands H8.out).mono ?_
            rintro e w9 ⟨rfl, h9⟩
            go_wp2_with fail
            go_meet
            exact ⟨rfl, _, _, _, h9⟩
          · have hor : nb ≠ n ∨ i ≠ n := by omega
            have HBL := Lib.hid (lay_len HB6.out.has adb al1 nb i cb cl1 hor)
            have HRL := Lib.hid (Ref12.lay_len HB6.out.ref h1n adb al2 nb i cb cl2 hor)
            clear hmatch hor
            go_wp2_with fail
            refine HBL.out.mono ?_
            rintro e w7 ⟨rfl, rfl⟩
            go_wp2_with fail
            refine HRL.out.mono ?_
            rintro e w8 ⟨rfl, rfl⟩
            go_wp2_with fail
            refine (t_stands HB6.out.pl).mono ?_
            rintro e w9 ⟨rfl, h9⟩
            go_wp2_with fail
            go_meet
            exact ⟨rfl, _, _, _, h9⟩
      case rest =>
        obtain ⟨rfl, cnt6, bs6, ps6, hp6⟩ := hcut
        have HP6 := Lib.hid hp6
        clear hp6 HNn HNn' HUO HSM HP5
        go_wp2_with fail
        go_loopw [117] (fun iv wr => ∃ (k cnt : Nat) (bs : Nat → Nat) (ps : Nat → List (Nat × Int)), k ≤ N ∧ iv = .int .i64 k ∧ Pl none #[] w wr s b 60 n cnt bs ps bs ps) (fun iv _ => N - (intOf iv).toNat)
        case atStart => exact ⟨0, _, _, _, by omega, rfl, HP6.out⟩
        case round =>
          obtain ⟨k, cnt, bs, ps, hk, rfl, hpl⟩ := hrel
          obtain ⟨wB, rfl⟩ : ∃ x, x = wr := ⟨_, rfl⟩
          have HP := Lib.hid hpl
          clear hpl HP6
          by_cases hlt : k < N
          · have hI : (k : Int) < N := by omega
            obtain ⟨⟨K, R, X⟩, hx⟩ : ∃ a, bh[k]? = some a := ⟨bh[k]'(by rw [HNN.out]; exact hlt), by simp⟩
            obtain ⟨hK, hR⟩ := HB.out k _ hx
            simp only at hK hR
            obtain ⟨ga, oa, rfl⟩ : ∃ ga oa, adh = some ⟨ga, oa, none⟩ := by
              cases adh with
              | none => have := HA0.out rfl; rw [HNN.out] at this; omega
              | some b' =>
                have hs := (HA.out b' rfl _ _ (act_at hx (j := 0) rfl)).1
                obtain ⟨g, o, sp⟩ := b'
                simp only at hs
                subst hs
                exact ⟨g, o, rfl⟩
            have r0 : wB.cell? ⟨ga, oa + k * 3, none⟩ = some (.int .u8 K) := cell_old HP.out.upd (HA.out _ rfl _ _ (act_at hx (j := 0) rfl)).2
            have r1 : wB.cell? ⟨ga, oa + (k * 3 + 1), none⟩ = some (.int .u64 R) := cell_old HP.out.upd (HA.out _ rfl _ _ (act_at hx (j := 1) rfl)).2
            have r2 : wB.cell? ⟨ga, oa + (k * 3 + 2), none⟩ = some (.int .i64 X) := cell_old HP.out.upd (HA.out _ rfl _ _ (act_at hx (j := 2) rfl)).2
            have r1' : wB.cell? ⟨ga, oa + k * 3 + 1, none⟩ = some (.int .u64 R) := by rw [Nat.add_assoc]; exact r1
            have r2' : wB.cell? ⟨ga, oa + k * 3 + 2, none⟩ = some (.int .i64 X) := by rw [Nat.add_assoc]; exact r2
            clear hx
            have eK : (K : Int) % 4 = ((K % 4 : Nat) : Int) := rfl
            have hr4 : K % 4 < 4 := Nat.mod_lt _ (by omega)
            generalize K % 4 = r at *
            have HAP : Hid (Pl (some wB.heap.size) #[.int .u8 K, .int .u64 R, .int .i64 X] w (wB.alloc (.cells #[.int .u8 K, .int .u64 R, .int .i64 X] TA)) s b 60 n cnt bs ps bs ps) := Lib.hid (HP.out.some _)
            clear HP
            go_upto_if 124 with fail
            obtain ⟨wA, hwA⟩ : ∃ wA, wB.alloc (.cells #[.int .u8 K, .int .u64 R, .int .i64 X] TA) = wA := ⟨_, rfl⟩
            rw [hwA] at HAP ⊢
            obtain ⟨j0, j1, j2, y0, y1, y2⟩ := cells3 HAP.out.blk
            rcases (show r < 3 ∨ r = 3 by omega) with hr3 | rfl
            · have d1 : decide ((r : Int) < 3) = true := decide_eq_true (by omega)
              have d2 : decide (r < 3) = true := decide_eq_true hr3
              by_cases hfit : cnt < 60
              · go_wp2_with fail
                refine (t_push HAP.out hfit R hR X).mono ?_
                rintro e w4 ⟨rfl, h4⟩
                have H4 := Lib.hid h4
                obtain ⟨j0, j1, j2, y0, y1, y2⟩ := cells3 h4.blk
                clear h4
                go_wp2_with fail
                refine (t_rpush H4.out (by have := HAP.out.tot_; omega) HAP.out.fit R hR X).mono ?_
                rintro e w5 ⟨rfl, h5⟩
                go_wp2_with fail
                refine (t_stands h5).mono ?_
                rintro e w9 ⟨rfl, h9⟩
                go_wp2_with fail
                go_roundw
                case rel => exact ⟨k + 1, _, _, _, by omega, by go_num, h9.none⟩
                case measure => simp [intOf]; omega
              · have hfe : cnt = 60 := by have := HAP.out.le; omega
                have HFE := Lib.hid hfe
                clear hfe
                go_wp2_with fail
                refine (t_full HAP.out HFE.out R X).mono ?_
                rintro e w4 ⟨rfl, h4⟩
                have H4 := Lib.hid h4
                obtain ⟨j0, j1, j2, y0, y1, y2⟩ := cells3 h4.blk
                clear h4
                go_wp2_with fail
                refine (t_rfull H4.out (by have := HAP.out.tot_; have := HFE.out; omega) R X).mono ?_
                rintro e w5 ⟨rfl, h5⟩
                go_wp2_with fail
                refine (t_stands h5).mono ?_
                rintro e w9 ⟨rfl, h9⟩
                go_wp2_with fail
                go_roundw
                case rel => exact ⟨k + 1, _, _, _, by omega, by go_num, h9.none⟩
                case measure => simp [intOf]; omega
            · have eK4 : (K : Int) % 4 = 3 := eK
              clear eK
              rcases lead_ex ps n with hl0 | ⟨i', ⟨z0, z1⟩, t, hi', hl0, hx0⟩
              · have HL0 := Lib.hid hl0
                clear hl0
                go_wp2_with fail
                refine (t_pop0 HAP.out HL0.out).mono ?_
                rintro e w4 ⟨rfl, h4⟩
                have H4 := Lib.hid h4
                clear h4
                go_wp2_with fail
                refine (t_rpop0 H4.out HL0.out).mono ?_
                rintro e w5 ⟨rfl, h5⟩
                go_wp2_with fail
                refine (t_stands h5).mono ?_
                rintro e w9 ⟨rfl, h9⟩
                go_wp2_with fail
                go_roundw
                case rel => exact ⟨k + 1, _, _, _, by omega, by go_num, h9.none⟩
                case measure => simp [intOf]; omega
              · have ht : t.length ≤ 4096 := by have h1 := tot_le ps hi'; have h2 := HAP.out.tot_; have h3 := HAP.out.le; rw [hx0] at h1; simp at h1; omega
                have HL0 := Lib.hid hl0
                have HX0 := Lib.hid hx0
                have HT := Lib.hid ht
                clear hl0 hx0 ht
                go_wp2_with fail
                refine (t_pop HAP.out i' hi' HL0.out HX0.out).mono ?_
                rintro e w4 ⟨rfl, h4⟩
                have H4 := Lib.hid h4
                clear h4
                go_wp2_with fail
                refine (t_rpop H4.out i' hi' HL0.out HX0.out HT.out).mono ?_
                rintro e w5 ⟨rfl, h5⟩
                go_wp2_with fail
                refine (t_stands h5).mono ?_
                rintro e w9 ⟨rfl, h9⟩
                go_wp2_with fail
                go_roundw
                case rel => exact ⟨k + 1, _, _, _, by omega, by go_num, h9.none⟩
                case measure => simp [intOf]; omega
          · obtain rfl : k = N := by omega
            go_wp2_with fail
            refine ((Sp.lives _)).mono ?_
            rintro e w' ⟨rfl, hu⟩
            go_wp2_with fail
            go_ret
            exact ⟨rfl, HP.out.upd.trans hu (fun _ _ h => h)⟩
end Go.Proofs.Ytopibbaopglggaa.SpI
