/- wheel: pass. -/
import Derived.Test.YtjbaibnmbeabnaaDoorWheelLay
import Derived.Test.YtjbaibnmbeabnaaDoorWheelState
import Derived.Test.YtjbaibnmbeabnaaDoorTz
import Derived.Deep.CutBlock
import Derived.Deep.DeepCutAuto
namespace Go.Proofs.YtjbaibnmbeabnaaDoor.Wheel
open Go.RowKit Go.Proofs BigFrame Heap
set_option maxHeartbeats 4000000
set_option maxRecDepth 1000000
/-- The library's table, where the program's text lays it. -/
def Tab (w : World) : Prop := TabAt (Tryd.tz64_ren.g 1) Lib.deBruijn64tab w
theorem Tab.old {S : Nat → Prop} {w w' : World} (h : Tab w) (hu : Upd S w w') (hS : ¬ S (Tryd.tz64_ren.g 1)) : Tab w' := fun j hj => by
  have h1 := h j hj
  rw [hu.cell _ (cell_lt h1) hS]; exact h1
theorem tz_any (x : Nat) (hx : x < 2 ^ 64) (w : World) (hT : Tab w) :
    Calls Tryd.prog 58 #[.int .u64 x] w fun e w' => e = .returned (.int .i64 (Lib.ctz 64 x : Nat)) ∧ w' = w :=
  Any7.bits_TrailingZeros64 Tryd.tz64 x (by omega) w (fun _ => hT)
/-- What has been taken so far. -/
structure Took (A : Nat → Prop) (w0 w wr : World) (b now came room n : Nat) (ov : Value) (P : List En) (vs : Nat → Value) (qs0 qs : Nat → List En) (us : Nat → Nat) : Prop where
  out : wr.ownsRow w.heap.size TE 3 ov P.length (es P)
  mem : WIn TW TE A w0 wr b now came room n vs qs us
  st : St now qs us
  perm : (P ++ all qs).Perm (all qs0)
  sub : ∀ o, qs o = qs0 o ∨ qs o = []
  upd : Upd (fun k => k = b) w wr
  low : ∀ o, isRow o → ∀ k, (vs o).ownBlock = some k → k < w.heap.size
theorem Took.step {A : Nat → Prop} {w0 w wr w1 w2 : World} {b now came room n l i : Nat} {ov v2 : Value} {P : List En} {vs vs2 : Nat → Value} {qs0 qs : Nat → List En} {us : Nat → Nat} (h : Took A w0 w wr b now came room n ov P vs qs0 qs us) (hl : l < 11) (hi : i < 64) (hb : (us l).testBit i = true)
    (hm : WIn TW TE A w0 w1 b now came room n vs2 (put qs (l * 65 + 1 + i) []) (put us l (us l - 2 ^ i))) (hu1 : Upd (fun k => k = b) wr w1) (hown : w2.ownsRow w.heap.size TE 3 v2 (P.length + (qs (l * 65 + 1 + i)).length) (es P ++ es (qs (l * 65 + 1 + i)))) (hu2 : Upd (fun k => ov.ownBlock = some k) w1 w2)
    (hb' : b < w.heap.size) (hvs : ∀ o, isRow o → ∀ k, (vs2 o).ownBlock = some k → k < w.heap.size) :
    Took A w0 w w2 b now came room n v2 (P ++ qs (l * 65 + 1 + i)) vs2 qs0 (put qs (l * 65 + 1 + i) []) (put us l (us l - 2 ^ i)) := by
  have hlow : ∀ k, ov.ownBlock = some k → w.heap.size ≤ k := fun k hk => (h.out.lt k hk).1
  have hfar : ∀ k, Own b vs2 k → ov.ownBlock ≠ some k := fun k hk e => by
    have h1 := hlow k e
    rcases hk with rfl | ⟨o, ho, hk⟩
    · omega
    · have := hvs o ho k hk; omega
  refine ⟨?_, ?_, h.st.take hl hi hb, ?_, fun o => ?_, (h.upd.trans hu1 (fun _ _ h => h)).trans hu2 (fun k hk e => absurd hk (Nat.not_lt.2 (hlow k e))), hvs⟩
  · rw [List.length_append, es_app]; exact hown
  · obtain ⟨c, h1, h2⟩ := hm.cur
    exact ⟨⟨c, h1.kept hu2 (hfar b (.inl rfl)), h2⟩, fun o ho => ownsRow_upd (hm.row o ho) hu2 (fun k hk => hfar k (.inr ⟨o, ho, hk⟩)), hm.ap, hm.nb, hm.far⟩
  · rw [List.append_assoc]
    exact ((all_take qs (isRow_slot hl hi)).append_left P).trans h.perm
  · by_cases e : o = l * 65 + 1 + i
    · subst e; right; exact put_at _ _ _
    · rw [put_ne _ _ e]; exact h.sub o
/-- The walk's facts on a word of which the lowest bit goes. -/
theorem low_bit {u : Nat} (h0 : u ≠ 0) (h : u < 2 ^ 64) : IntKind.u64.wrap ((u : Int) - 1) = ((u - 1 : Nat) : Int) ∧ bits .and .u64 (u : Int) ((u - 1 : Nat) : Int) = ((u - 2 ^ Lib.ctz 64 u : Nat) : Int) ∧ u - 2 ^ Lib.ctz 64 u < u ∧ u.testBit (Lib.ctz 64 u) = true ∧ Lib.ctz 64 u < 64 := by
  obtain ⟨h1, _, h3, h4, h5⟩ := ctz_bits h0 h
  have hp := Nat.pow_pos (n := Lib.ctz 64 u) (show 0 < 2 by omega)
  refine ⟨by rw [IntKind.wrap_u64]; omega, ?_, by omega, h1, h3⟩
  rw [bits_and_u64_nat u (u - 1) (by omega) (by omega), h4]
theorem Took.len {A : Nat → Prop} {w0 w wr : World} {b now came room n : Nat} {ov : Value} {P : List En} {vs : Nat → Value} {qs0 qs : Nat → List En} {us : Nat → Nat} (h : Took A w0 w wr b now came room n ov P vs qs0 qs us) {o : Nat} (ho : isRow o) : P.length + (qs o).length ≤ (all qs0).length := by
  have h1 := h.perm.length_eq
  rw [List.length_append] at h1
  have := len_all (qs := qs) ho
  omega
theorem Took.old {A : Nat → Prop} {w0 w wr w1 : World} {b now came room n : Nat} {ov : Value} {P : List En} {vs : Nat → Value} {qs0 qs : Nat → List En} {us : Nat → Nat} (h : Took A w0 w wr b now came room n ov P vs qs0 qs us) (hu : Upd Nowhere wr w1) : Took A w0 w w1 b now came room n ov P vs qs0 qs us :=
  ⟨ownsRow_upd h.out hu (fun _ _ h => h), h.mem.old hu, h.st, h.perm, h.sub, h.upd.trans hu (fun _ _ h => h.elim), h.low⟩
/-- What a place gives, once it was taken. -/
theorem Took.src {A : Nat → Prop} {w0 w wr w1 : World} {b now came room n : Nat} {ov : Value} {P : List En} {vs : Nat → Value} {qs0 qs : Nat → List En} {us : Nat → Nat} (h : Took A w0 w wr b now came room n ov P vs qs0 qs us) (hu : Upd (fun k => k = b) wr w1) {o : Nat} (ho : isRow o) :
    ∃ ad c, vs o = .slice ad (qs o).length c ∧ (ad = none → (qs o).length = 0 ∧ c = 0) ∧ ∀ b, ad = some b → ∀ j u, (es (qs o))[j]? = some u → w1.cell? (b.add j) = some u :=
  row_src (ownsRow_upd (h.mem.row o ho) hu (fun k hk e => h.mem.nb o ho (by rw [hk, e])))
theorem put_low {vs : Nat → Value} {N o : Nat} (h : ∀ o, isRow o → ∀ k, (vs o).ownBlock = some k → k < N) : ∀ p, isRow p → ∀ k, (put vs o (.slice none 0 0) p).ownBlock = some k → k < N := fun p hp k hk => by
  by_cases e : p = o
  · subst e; rw [put_at] at hk; simp [Value.ownBlock] at hk
  · rw [put_ne _ _ e] at hk; exact h p hp k hk
theorem pass_any {A : Nat → Prop} {w0 w : World} {b now came room n : Nat} {vs : Nat → Value} {qs : Nat → List En} {us : Nat → Nat} (h : WIn TW TE A w0 w b now came room n vs qs us) (hs : St now qs us) (hA : ∀ k, A k → k < w.heap.size) (now' : Nat) (hn : now < now') (hb : now' ≤ 18446744073709551615) (hlen : (all qs).length ≤ 999999) (hT : Tab w) (hTb : b ≠ Tryd.tz64_ren.g 1) :
    Calls Tryd.prog 53 #[.pointer (some ⟨b, 0, none⟩), .int .u64 now'] w fun e w' => ∃ v P vs' qs' us', e = .returned v ∧ Took A w0 w w' b now came room n v P vs' qs qs' us' ∧ Passed now now' qs' := by
  obtain ⟨i0, hi, hz0, hz1, hz2⟩ := info_parts infoE
  have HSP := fun w => Lib.hid (spot_any now now' hn hb w)
  obtain ⟨top, htop⟩ : ∃ l, lvl now now' = l := ⟨_, rfl⟩
  obtain ⟨en, hen⟩ : ∃ l, plc (lvl now now') now' = l := ⟨_, rfl⟩
  rw [htop] at hen
  rw [htop, hen] at HSP
  have ht10 := lvl_lt (now := now) (at' := now') (by omega) hb
  rw [htop] at ht10
  have he64 : en < 64 := by rw [← hen]; exact plc_lt _ _
  obtain ⟨c0, _, _, _, z0⟩ := h.at_nums
  have HTK0 : Hid (Took A w0 w w b now came room n (.slice none 0 0) [] vs qs qs us) := Lib.hid ⟨ownsRow_nil _ _ _ _, h, hs, List.Perm.refl _, fun _ => .inl rfl, Upd.refl _ _, fun o ho k hk => h.lts (.inr ⟨o, ho, hk⟩)⟩
  have HTOP := Lib.hid htop
  have HEN := Lib.hid hen
  have HT := Lib.hid hT
  have HA := Lib.hid hA
  have HLEN := Lib.hid hlen
  have hbw := h.lt
  clear h hs htop hen hT hA hlen
  go_enter Tryd.func53, Tryd.ntmps53
  go_wp2_with fail
  refine (HSP _).out.mono ?_
  rintro e w' ⟨rfl, nq, rfl⟩
  have HTK := Lib.hid (HTK0.out.old ((Upd.refl Nowhere w).drewN nq))
  clear HTK0 HSP c0 z0
  go_wp2_with fail
  go_loopw [5, 22] (fun ov c wr => ∃ (k : Nat) (P : List En) (vs' : Nat → Value) (qs' : Nat → List En) (us' : Nat → Nat), k ≤ top ∧ c = .int .i64 k ∧ Took A w0 w wr b now came room n ov P vs' qs qs' us' ∧ ∀ m i, m < k → i < 64 → qs' (m * 65 + 1 + i) = []) (fun _ c _ => top - (intOf c).toNat)
  case atStart => exact ⟨0, [], _, _, _, by omega, rfl, HTK.out, fun m i hm _ => by omega⟩
  case round =>
    clear HTK
    obtain ⟨k, P, vs1, qs1, us1, hk, rfl, hTk, hE⟩ := hrel
    obtain ⟨wB, rfl⟩ : ∃ x, x = wr := ⟨_, rfl⟩
    by_cases hlt : k < top
    · have hI : (k : Int) < top := by omega
      have hk11 : k < 11 := by omega
      have hI2 : (k : Int) < 11 := by omega
      obtain ⟨c1, z1⟩ := hTk.mem.at_used hk11
      obtain ⟨u0, hu0⟩ : ∃ u, us1 k = u := ⟨_, rfl⟩
      rw [hu0] at c1
      have HTk := Lib.hid hTk
      have HE := Lib.hid hE
      have HU0 := Lib.hid hu0
      clear hTk hE hu0
      go_wp2_with fail
      go_loopw [5, 9] (fun ov uv wr => ∃ (u : Nat) (P : List En) (vs' : Nat → Value) (qs' : Nat → List En) (us' : Nat → Nat), uv = .int .u64 u ∧ us' k = u ∧ Took A w0 w wr b now came room n ov P vs' qs qs' us' ∧ ∀ m i, m < k → i < 64 → qs' (m * 65 + 1 + i) = []) (fun _ uv _ => (intOf uv).toNat)
      case atStart => exact ⟨u0, P, vs1, qs1, us1, rfl, HU0.out, HTk.out, HE.out⟩
      case round =>
        clear HTk HE HU0 c1 z1
        obtain ⟨u, P2, vs2, qs2, us2, rfl, hu, hTk2, hE2⟩ := hrel
        obtain ⟨wC, rfl⟩ : ∃ x, x = wr := ⟨_, rfl⟩
        by_cases hz : u = 0
        · subst hz
          have HTk2 := Lib.hid hTk2
          have HE2 := Lib.hid hE2
          have HU := Lib.hid hu
          clear hTk2 hE2 hu
          go_wp2_with fail
          go_roundw
          case rel => exact ⟨k + 1, P2, vs2, qs2, us2, by omega, by go_num, HTk2.out, fun m i hm hi => by
            rcases Nat.lt_or_ge m k with h9 | h9
            · exact HE2.out m i h9 hi
            · obtain rfl : m = k := by omega
              have h8 := (HTk2.out.st.bit m i hk11 hi)
              rw [HU.out, Nat.zero_testBit] at h8
              exact Classical.byContradiction fun h7 => Bool.noConfusion (h8.2 h7)⟩
          case measure => simp [intOf]; omega
        · have hub : u < 2 ^ 64 := by rw [← hu]; exact hTk2.st.ub k hk11
          obtain ⟨l1, l2, l3, l4, l5⟩ := low_bit hz hub
          have n1 : ((u : Int) != 0) = true := by simp; omega
          have n2 : ((u : Int) == 0) = false := by simp; omega
          have HTZ := Lib.hid (tz_any u hub wC (HT.out.old hTk2.upd (fun e => hTb e.symm)))
          obtain ⟨i, hi9⟩ : ∃ i, Lib.ctz 64 u = i := ⟨_, rfl⟩
          rw [hi9] at HTZ l2 l3 l4 l5
          obtain ⟨u2, hu2⟩ : ∃ x, u - 2 ^ i = x := ⟨_, rfl⟩
          obtain ⟨u3, hu3⟩ : ∃ x, u - 1 = x := ⟨_, rfl⟩
          rw [hu3] at l1 l2
          rw [hu2] at l2 l3
          have hbit : (us2 k).testBit i = true := by rw [hu]; exact l4
          have ho := isRow_slot hk11 l5
          have HTA := Lib.hid (take_any hTk2.mem (fun k hk => Nat.lt_of_lt_of_le (HA.out k hk) hTk2.upd.size) hk11 l5 (by rw [hu]; exact hub) hbit)
          have hln := hTk2.len ho
          have HTk2 := Lib.hid hTk2
          have HE2 := Lib.hid hE2
          have HU := Lib.hid hu
          have HB := Lib.hid hbit
          have HU2 := Lib.hid hu2
          have hlen9 := HLEN.out
          have hP9 : P2.length + (qs2 (k * 65 + 1 + i)).length ≤ 1000000000 := by omega
          clear hTk2 hE2 hu l4 hbit hu2 hu3 hi9 hln hlen9
          go_wp2_with fail
          refine HTZ.out.mono ?_
          rintro e w' ⟨rfl, rfl⟩
          go_wp2_with fail
          refine HTA.out.mono ?_
          rintro e w1 ⟨rfl, hm1, hu1⟩
          obtain ⟨ad, cc, hv, hnil, hsrc⟩ := HTk2.out.src hu1 ho
          rw [hv]
          have HM1 := Lib.hid hm1
          have HU1 := Lib.hid hu1
          have HOUT := Lib.hid (ownsRow_upd HTk2.out.out hu1 (fun q hq e => by have h8 := (HTk2.out.out.lt q hq).1; omega))
          have HSZ := Lib.hid (Nat.le_trans HTk2.out.upd.size hu1.size)
          clear hm1 hu1 HTZ HTA hv
          go_wp2_with (at_builtin; go_loud (refine wpList_app rfl _ _ 92 rfl w.heap.size TE i0 Z 3 24 Tryd.underlying92 hi hz0 hz1 hz2 rfl (by decide) (by decide) _ P2.length (es P2) rfl HOUT.out ad _ cc (es (qs2 (k * 65 + 1 + i))) rfl hnil (es_len _) hsrc (es_one _) hP9 HSZ.out ?_; intro v3 w3 hown3 hu3 hno3; have HTk3 := Lib.hid (HTk2.out.step hk11 l5 HB.out HM1.out HU1.out hown3 hu3 hbw (put_low HTk2.out.low)); clear hown3 hu3 hno3))
          go_roundw
          case rel => exact ⟨u2, P2 ++ qs2 (k * 65 + 1 + i), _, _, _, rfl, by rw [put_at, HU.out, HU2.out], HTk3.out, fun m j hm hj => by rw [put_ne _ _ (by omega)]; exact HE2.out m j hm hj⟩
          case measure => simp [intOf]; omega
    · have hI : ¬ (k : Int) < top := by omega
      obtain rfl : k = top := by omega
      have hk11 : k < 11 := by omega
      have hI2 : (k : Int) < 11 := by omega
      obtain ⟨c1, z1⟩ := hTk.mem.at_used hk11
      obtain ⟨u0, hu0⟩ : ∃ u, us1 k = u := ⟨_, rfl⟩
      rw [hu0] at c1
      have hub0 : u0 < 2 ^ 64 := by rw [← hu0]; exact hTk.st.ub k hk11
      have HTk := Lib.hid hTk
      have HE := Lib.hid hE
      have HU0 := Lib.hid hu0
      clear hTk hE hu0
      go_wp2_with fail
      go_loopw [5, 10] (fun ov uv wr => ∃ (u : Nat) (P : List En) (vs' : Nat → Value) (qs' : Nat → List En) (us' : Nat → Nat), uv = .int .u64 u ∧ u < 2 ^ 64 ∧ (∀ i, u.testBit i = true → (us' k).testBit i = true) ∧ (∀ i, i ≤ en → (us' k).testBit i = true → u.testBit i = true) ∧ Took A w0 w wr b now came room n ov P vs' qs qs' us' ∧ ∀ m i, m < k → i < 64 → qs' (m * 65 + 1 + i) = []) (fun _ uv _ => (intOf uv).toNat)
      case atStart => exact ⟨u0, P, vs1, qs1, us1, rfl, hub0, fun i h => by rw [HU0.out]; exact h, fun i _ h => by rw [HU0.out] at h; exact h, HTk.out, HE.out⟩
      case round =>
        clear HTk HE HU0 c1 z1 hub0
        obtain ⟨u, P2, vs2, qs2, us2, rfl, hub, hb1, hb2, hTk2, hE2⟩ := hrel
        obtain ⟨wC, rfl⟩ : ∃ x, x = wr := ⟨_, rfl⟩
        have HB1 := Lib.hid hb1
        have HB2 := Lib.hid hb2
        have HE2 := Lib.hid hE2
        by_cases hz : u = 0
        · subst hz
          have HTk2 := Lib.hid hTk2
          clear hTk2 hE2 hb1 hb2 hub
          go_wp2_with fail
          go_ret
          refine ⟨_, P2, vs2, qs2, us2, rfl, HTk2.out, fun m i hm hi hc => ?_⟩
          rw [HTOP.out] at hc
          rcases hc with h9 | ⟨rfl, h9⟩
          · exact HE2.out m i h9 hi
          · rw [HEN.out] at h9
            have h8 := HTk2.out.st.bit m i hm hi
            exact Classical.byContradiction fun h7 => by
              have h6 := HB2.out i h9 (h8.2 h7)
              rw [Nat.zero_testBit] at h6
              exact Bool.noConfusion h6
        · obtain ⟨l1, l2, l3, l4, l5⟩ := low_bit hz hub
          have n1 : ((u : Int) != 0) = true := by simp; omega
          have n2 : ((u : Int) == 0) = false := by simp; omega
          have HTZ := Lib.hid (tz_any u hub wC (HT.out.old hTk2.upd (fun e => hTb e.symm)))
          obtain ⟨i, hi9⟩ : ∃ i, Lib.ctz 64 u = i := ⟨_, rfl⟩
          rw [hi9] at HTZ l2 l3 l4 l5
          have HD := Lib.hid (drop_bit l4)
          have hbit : (us2 k).testBit i = true := hb1 i l4
          obtain ⟨u2, hu2⟩ : ∃ x, u - 2 ^ i = x := ⟨_, rfl⟩
          obtain ⟨u3, hu3⟩ : ∃ x, u - 1 = x := ⟨_, rfl⟩
          rw [hu3] at l1 l2
          rw [hu2] at l2 l3 HD
          have hub2 : u2 < 2 ^ 64 := by omega
          by_cases hie : i ≤ en
          · have d1 : (i : Int) ≤ en := by omega
            have ho := isRow_slot hk11 l5
            have HTA := Lib.hid (take_any hTk2.mem (fun k hk => Nat.lt_of_lt_of_le (HA.out k hk) hTk2.upd.size) hk11 l5 (hTk2.st.ub k hk11) hbit)
            have hln := hTk2.len ho
            have HTk2 := Lib.hid hTk2
            have HB := Lib.hid hbit
            have hlen9 := HLEN.out
            have hP9 : P2.length + (qs2 (k * 65 + 1 + i)).length ≤ 1000000000 := by omega
            clear hTk2 hE2 l4 hbit hu2 hu3 hi9 hln hlen9 hb1 hb2
            go_wp2_with fail
            refine HTZ.out.mono ?_
            rintro e w' ⟨rfl, rfl⟩
            go_wp2_with fail
            refine HTA.out.mono ?_
            rintro e w1 ⟨rfl, hm1, hu1⟩
            obtain ⟨ad, cc, hv, hnil, hsrc⟩ := HTk2.out.src hu1 ho
            rw [hv]
            have HM1 := Lib.hid hm1
            have HU1 := Lib.hid hu1
            have HOUT := Lib.hid (ownsRow_upd HTk2.out.out hu1 (fun q hq e => by have h8 := (HTk2.out.out.lt q hq).1; omega))
            have HSZ := Lib.hid (Nat.le_trans HTk2.out.upd.size hu1.size)
            clear hm1 hu1 HTZ HTA hv
            go_wp2_with (at_builtin; go_loud (refine wpList_app rfl _ _ 92 rfl w.heap.size TE i0 Z 3 24 Tryd.underlying92 hi hz0 hz1 hz2 rfl (by decide) (by decide) _ P2.length (es P2) rfl HOUT.out ad _ cc (es (qs2 (k * 65 + 1 + i))) rfl hnil (es_len _) hsrc (es_one _) hP9 HSZ.out ?_; intro v3 w3 hown3 hu3 hno3; have HTk3 := Lib.hid (HTk2.out.step hk11 l5 HB.out HM1.out HU1.out hown3 hu3 hbw (put_low HTk2.out.low)); clear hown3 hu3 hno3))
            go_roundw
            case rel =>
              refine ⟨u2, P2 ++ qs2 (k * 65 + 1 + i), _, _, _, rfl, hub2, fun j hj => ?_, fun j hj hj2 => ?_, HTk3.out, fun m j hm hj => by rw [put_ne _ _ (by omega)]; exact HE2.out m j hm hj⟩
              · rw [put_at, drop_bit HB.out]
                rw [HD.out] at hj
                simp only [Bool.and_eq_true] at hj ⊢
                exact ⟨HB1.out j hj.1, hj.2⟩
              · rw [put_at, drop_bit HB.out] at hj2
                rw [HD.out]
                simp only [Bool.and_eq_true] at hj2 ⊢
                exact ⟨HB2.out j hj hj2.1, hj2.2⟩
            case measure => simp [intOf]; omega
          · have d1 : ¬ (i : Int) ≤ en := by omega
            have HTk2 := Lib.hid hTk2
            clear hTk2 hE2 l4 hbit hu2 hu3 hi9 hb1 hb2
            go_wp2_with fail
            refine HTZ.out.mono ?_
            rintro e w' ⟨rfl, rfl⟩
            clear HTZ
            go_wp2_with fail
            go_roundw
            case rel =>
              refine ⟨u2, P2, vs2, qs2, us2, rfl, hub2, fun j hj => ?_, fun j hj hj2 => ?_, HTk2.out, HE2.out⟩
              · rw [HD.out] at hj
                simp only [Bool.and_eq_true] at hj
                exact HB1.out j hj.1
              · rw [HD.out]
                simp only [Bool.and_eq_true, decide_eq_true_eq]
                exact ⟨HB2.out j hj hj2, by omega⟩
            case measure => simp [intOf]; omega
end Go.Proofs.YtjbaibnmbeabnaaDoor.Wheel
