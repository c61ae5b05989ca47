/- SpP, SpP2, SpP3, SpP4, SpP5, one behind the other. -/
import Derived.Test.YtpgpjjkeginbbaaGreatDoorMtSp0
import Derived.Test.YtpgpjjkeginbbaaGreatDoorMtRg
import Derived.Deep.CutBlock
import Derived.Deep.DeepCutAuto
import Derived.Outline
import Derived.Test.YtpgpjjkeginbbaaGreatDoorMtA
namespace Go.Proofs.YtpgpjjkeginbbaaGreatDoor.SpP
open Go.RowKit Go.Proofs BigFrame
open RingP (TR TE KI It VI zI ZI)
abbrev TS : TypeId := 268
abbrev PT : TypeId := 322
abbrev TU : TypeId := 25
set_option maxHeartbeats 1000000
theorem infoP : (Tryz.prog.info? PT).map (fun i => (i.zero, i.size, i.bytes)) = some (some (.pointer none), 1, 8) := by kernel_rfl
theorem infoU : (Tryz.prog.info? TU).map (fun i => (i.zero, i.size, i.bytes)) = some (some (.int .u64 0), 1, 8) := by kernel_rfl
theorem empty_any (w : World) (s gb n room : Nat) (h1 : 1 ≤ room) (h2 : room ≤ 4096) (hn : n ≤ 32) (hb : w.cell? ⟨s, 1, none⟩ = some (.slice (some ⟨gb, 0, none⟩) n n)) (hr : w.cell? ⟨s, 2, none⟩ = some (.int .i64 room)) :
 Calls Tryz.prog 93 #[.pointer (some ⟨s, 0, none⟩)] w fun e w' => ∃ v, e = .returned v ∧ ∃ rb, Rings KI 4 TR TE PT w w' v rb n room := by
 obtain ⟨i0, hi, hz0, hz1, hz2⟩ := info_parts infoP
 have HN := fun u => Lib.hid (RingP.new_ok u room h1 (by omega))
 go_enter Tryz.func93, Tryz.ntmps93
 go_wp2_with fail
 go_loopw [3, 11] (fun v i wr => ∃ (k : Nat) (rb : Nat → Nat), k ≤ n ∧ i = .int .i64 k ∧ Rings KI 4 TR TE PT w wr v rb k room) (fun _ i _ => n - (intOf i).toNat)
 case atStart => exact ⟨0, fun _ => 0, by omega, rfl, Rings.start _ _ _ _ _ _ _ _⟩
 case round =>
  obtain ⟨k, rb, hk, rfl, hR⟩ := hrel
  have HR := Lib.hid hR
  clear hR
  have e2 := (HR.out.upd.cell 2 (cell_lt hr) id).trans hr
  by_cases hlt : k < n
  · have hI : (k : Int) < n := by omega
    go_wp2_with fail
    refine (HN _).out.mono ?_
    rintro e w1 ⟨rfl, hring, hu1⟩
    have hsz := hu1.size
    have hlow := HR.out.upd.size
    have hown := ownsRow_upd HR.out.row hu1 (fun _ _ h => h)
    go_wp2_with (at_builtin; refine wpList_push rfl _ _ 266 rfl w.heap.size PT i0 (.pointer none) 1 8 Tryz.underlying266 hi hz0 hz1 hz2 rfl (by decide) (by decide) _ _ _ rfl (hown.alloc _) w1.heap.size 1 [.pointer (some ⟨wr.heap.size, 0, none⟩)] rfl rfl (new_cells _ #[_] _) (by simp [Value.oneCell']) (by omega) (by simp; omega) ?_; intro v2 w2 hown2 hu2 hn2)
    go_roundw
    case rel => exact ⟨k + 1, _, by omega, by go_num, HR.out.push (hu1.alloc _) (hring.kept ((Upd.refl _ _).alloc _) (fun _ _ h => h)) hown2 hu2 hn2⟩
    case measure => simp [intOf]; omega
  · obtain rfl : k = n := by omega
    go_wp2_with fail
    go_ret
    exact ⟨_, rfl, rb, HR.out⟩
/-- What New leaves. -/
def Fresh (w w' : World) (s room n : Nat) : Prop := ∃ gq gb cq rb, SpIn KI 4 TS TR TE PT TU w' s gq gb cq n room 0 rb (fun _ => none) (fun _ => 0) (fun _ => []) ∧ (∀ k, SpOf s gq gb n rb (fun _ => none) k → w.heap.size ≤ k) ∧ Upd Nowhere w w'
theorem new_ok (w : World) (room n : Nat) (h1 : 1 ≤ room) (h2 : room ≤ 4096) (hn1 : 1 ≤ n) (hn2 : n ≤ 32) :
 Calls Tryz.prog 54 #[.int .i64 room, .int .i64 n] w fun e w' => ∃ s, e = .returned (.tuple #[.pointer (some ⟨s, 0, none⟩), .int .i64 0]) ∧ Fresh w w' s room n := by
 obtain ⟨i0, hi, hz0, hz1, hz2⟩ := info_parts infoU
 have d1 : decide ((room : Int) < 1) = false := decide_eq_false (by omega)
 have d2 : decide ((room : Int) > 4096) = false := decide_eq_false (by omega)
 have d3 : decide ((n : Int) < 1) = false := decide_eq_false (by omega)
 have d4 : decide ((n : Int) > 32) = false := decide_eq_false (by omega)
 go_enter Tryz.func54, Tryz.ntmps54
 go_wp2_with (refine wpList_make_full _ rfl _ _ 22 rfl w.heap.size TU i0 (.int .u64 0) 1 Tryz.underlying22 hi hz0 hz1 .i64 .i64 _ _ n rfl rfl rfl rfl (by rw [hz2]; omega) (by unfold maxLen; omega) (Nat.le_refl _) ?_; intro w1 hown hgr)
 have hu1 : Upd Nowhere w w1 := (Upd.refl Nowhere w).grown hgr (fun k _ h => by cases h)
 obtain ⟨cur, hc, _, _, hcs, hct⟩ := Blk.own hown
 have hsz1 := hc.lt
 have hS2 : Blk (w1.alloc (.cells #[.slice none 0 0, .slice (some ⟨w.heap.size, 0, none⟩) n n, .int .i64 room, .int .i64 0] TS)) w1.heap.size #[.slice none 0 0, .slice (some ⟨w.heap.size, 0, none⟩) n n, .int .i64 room, .int .i64 0] TS := Blk.new _ _ _
 have hC2 := hc.alloc (.cells #[.slice none 0 0, .slice (some ⟨w.heap.size, 0, none⟩) n n, .int .i64 room, .int .i64 0] TS)
 have hU2 := hu1.alloc (.cells #[.slice none 0 0, .slice (some ⟨w.heap.size, 0, none⟩) n n, .int .i64 room, .int .i64 0] TS)
 have hsz2 : (w1.alloc (.cells #[.slice none 0 0, .slice (some ⟨w.heap.size, 0, none⟩) n n, .int .i64 room, .int .i64 0] TS)).heap.size = w1.heap.size + 1 := by simp
 refine (empty_any _ w1.heap.size w.heap.size n room h1 h2 hn2 (hS2.cellAt rfl) (hS2.cellAt rfl)).mono ?_
 rintro e w3 ⟨v, rfl, rb, hR⟩
 have hS3 := hS2.kept hR.upd id
 have hC3 := hC2.kept hR.upd id
 have hU3 := hU2.trans hR.upd (fun _ _ h => h)
 have zs := hS3.free 0
 have cs := hS3.cellAt (i := 0) rfl
 have HC := Lib.hid hct
 have HS := Lib.hid hcs
 obtain ⟨_, ⟨rfl, hn0⟩ | ⟨gq, cq, cur2, rfl, hb2, hg2, hcap, _, hcs2, hct2⟩⟩ := hR.row
 · omega
 have HR := Lib.hid hR
 have HC2 := Lib.hid hct2
 have HS2 := Lib.hid hcs2
 clear hct hcs hct2 hcs2 hR hown hgr hS2 hC2 hU2 hc
 go_wp2_with fail
 go_ret2
 have hu : Upd (fun q => q = w1.heap.size) w3 (w3.setCell ⟨w1.heap.size, 0, none⟩ (.slice (some ⟨gq, 0, none⟩) n cq)) := Upd.setCell (S := fun q => q = w1.heap.size) (Upd.refl _ _) (fun _ => rfl) _
 have hlow : ∀ i, i < n → w1.heap.size + 1 ≤ rb i := fun i hi => by have := HR.out.low i hi; omega
 have hgqr : ∀ i, i < n → gq ≠ rb i := fun i hi e => HR.out.off i hi (by rw [← e]; rfl)
 have hgq : w1.heap.size + 1 ≤ gq := by omega
 refine ⟨w1.heap.size, rfl, gq, w.heap.size, cq, rb, ⟨?_, ⟨cur, hC3.kept hu (by omega), by have := HS.out; omega, fun i hi => ?_⟩, ⟨cur2, Blk.kept (show Blk w3 gq cur2 PT from hg2) hu (by omega), fun i hi => ?_⟩, fun i hi => (HR.out.ring i hi).kept hu (fun k hk e => ?_), by omega, hn2, h2, by omega, by omega, by omega, fun i hi k hk => ?_, fun i j hi hj hij k hk hk2 => ?_⟩, fun k hk => ?_, hU3.setNew (by simp; omega) _⟩
 · simpa using hS3.set 0 (.slice (some ⟨gq, 0, none⟩) n cq)
 · exact made_at HC.out hi
 · exact took_at HC2.out (by rw [ptrs_at rb hi]) (by rw [ptrs_len]; exact hi)
 · rcases hk with rfl | hk
   · have := hlow i hi; omega
   · cases hk
 · rcases hk with rfl | hk
   · have := hlow i hi; have := hgqr i hi; exact ⟨by omega, by omega, fun e => hgqr i hi e.symm⟩
   · cases hk
 · rcases hk with rfl | hk
   · rcases hk2 with hk2 | hk2
     · exact HR.out.apart i j hi hj hij hk2
     · cases hk2
   · cases hk
 · have := hu1.size
   rcases hk with rfl | rfl | rfl | ⟨i, hi, hk⟩
   · omega
   · omega
   · omega
   · rcases hk with rfl | hk
     · have := hlow i hi; omega
     · cases hk
end Go.Proofs.YtpgpjjkeginbbaaGreatDoor.SpP
namespace Go.Proofs.YtpgpjjkeginbbaaGreatDoor.SpP
open Go.RowKit Go.Proofs BigFrame
open RingP (TR TE KI It VI zI ZI)
abbrev TPk : TypeId := 44
set_option maxHeartbeats 2000000
set_option maxRecDepth 100000
theorem push_room (w : World) (s gq gb cq n room cnt : Nat) (rb : Nat → Nat) (rg : Nat → Option Nat) (bs : Nat → Nat) (qs : Nat → List It) (r : Nat) (xf xi xl : Nat)
 (h : SpIn KI 4 TS TR TE PT TU w s gq gb cq n room cnt rb rg bs qs) (hc : cnt < room) (hf : Fit n bs) (hr : r ≤ 18446744073709551615) (ht : tot qs n = cnt) :
 Calls Tryz.prog 246 #[.pointer (some ⟨s, 0, none⟩), .int .u64 r, .agg #[.int .u32 (xf : Nat), .int .u32 (xi : Nat), .int .u64 (xl : Nat)]] w fun e w' => e = .returned (.tuple #[.int .i64 (pick bs r (n - 1) : Nat), .bool true]) ∧
  ∃ g', SpIn KI 4 TS TR TE PT TU w' s gq gb cq n room (cnt + 1) rb (upd rg (pick bs r (n - 1)) g') (pushed bs r (pick bs r (n - 1))) (upd qs (pick bs r (n - 1)) (qs (pick bs r (n - 1)) ++ [(r, xf, xi, xl)])) ∧
   (∀ k, SpOf s gq gb n rb (upd rg (pick bs r (n - 1)) g') k → SpOf s gq gb n rb rg k ∨ w.heap.size ≤ k) ∧ Upd (SpOf s gq gb n rb rg) w w' := by
 have hUA : Upd Nowhere w (w.alloc (.cells #[.int .u32 xf, .int .u32 xi, .int .u64 xl] TPk)) := (Upd.refl _ _).alloc _
 have hXA : Blk (w.alloc (.cells #[.int .u32 xf, .int .u32 xi, .int .u64 xl] TPk)) w.heap.size #[.int .u32 xf, .int .u32 xi, .int .u64 xl] TPk := Blk.new _ _ _
 obtain ⟨PB, hPB⟩ : ∃ PB, w.heap.size = PB := ⟨_, rfl⟩
 have HPN : Hid (¬ SpOf s gq gb n rb rg PB) := Lib.hid (fun hk => absurd (h.lts hk) (by omega))
 rw [hPB] at hXA
 have HPB := Lib.hid hPB
 clear hPB
 obtain ⟨c0, c1, c2, c3, z0, z1, z2, z3⟩ := cells4 (h.old hUA).blk
 have t0 : decide ((cnt : Int) ≥ room) = false := decide_eq_false (by omega)
 have t1 : decide (room ≤ cnt) = false := decide_eq_false (by omega)
 have hnp := h.npos
 have hnl := h.nle
 have hrl := h.rle
 have e1 : IntKind.i64.wrap ((n : Int) - 1) = ((n - 1 : Nat) : Int) := by rw [IntKind.wrap_i64]; omega
 have H0 := Lib.hid (h.old hUA)
 have HXA := Lib.hid hXA
 have HF := Lib.hid hf
 have HT := Lib.hid ht
 have HUA := Lib.hid hUA
 clear h hf ht hXA hUA
 go_enter Tryz.func246, Tryz.ntmps246
 go_wp2_with fail
 go_quiet (fail)
 have H1 := Lib.hid (H0.out.drewN nq)
 have hU1 : Upd Nowhere w ((w.alloc (.cells #[.int .u32 xf, .int .u32 xi, .int .u64 xl] TPk)).drewN nq) := HUA.out.drewN nq
 have HX1 := Lib.hid (HXA.out.drewN nq)
 have hsz : w.heap.size ≤ ((w.alloc (.cells #[.int .u32 xf, .int .u32 xi, .int .u64 xl] TPk)).drewN nq).heap.size := hU1.size
 go_upto_block 0 with fail
 have hPB := HPB.out
 try simp only [hPB]
 clear hPB HPB HXA HUA
 generalize (w.alloc (.cells #[.int .u32 xf, .int .u32 xi, .int .u64 xl] TPk)).drewN nq = w1 at *
 clear c0 c1 c2 c3 z0 z1 z2 z3 H0
 obtain ⟨c0, c1, c2, c3, z0, z1, z2, z3⟩ := cells4 H1.out.blk
 obtain ⟨p, hp⟩ : ∃ p, pick bs r (n - 1) = p := ⟨_, rfl⟩
 have hpn : p < n := by have := pick_le bs r (n - 1); omega
 go_cut [8] from 30 to 44 (fun a wx => a = .int .i64 p ∧ wx = w1)
 case first =>
  go_wp2_with fail
  go_loopw [8] (fun a wr => ∃ i, i ≤ n - 1 ∧ a = .int .i64 i ∧ pick bs r i = p ∧ wr = w1) (fun a _ => (intOf a).toNat)
  case atStart => exact ⟨n - 1, Nat.le_refl _, rfl, hp, rfl⟩
  case round =>
   obtain ⟨i, hi, rfl, hpi, rfl⟩ := hrel
   rcases Nat.eq_zero_or_pos i with rfl | hi0
   · have g0 : decide (((0 : Nat) : Int) > 0) = false := by decide
     go_wp2_with fail
     go_meet
     exact ⟨by rw [← hpi]; rfl, rfl⟩
   · have g0 : decide ((i : Int) > 0) = true := decide_eq_true (by omega)
     have g1 : (0 : Int) < i := by omega
     have g2 : (i : Int) < n := by omega
     have g3 : IntKind.i64.wrap ((i : Int) - 1) = ((i - 1 : Nat) : Int) := by rw [IntKind.wrap_i64]; omega
     have hb := H1.out.bcell (i := i) (by omega)
     by_cases hv : bs i ≤ r
     · have g4 : decide (r < bs i) = false := decide_eq_false (by omega)
       have hst := pick_stay_ hi0 hv
       go_wp2_with fail
       go_meet
       exact ⟨by rw [← hpi, hst], rfl⟩
     · have g4 : decide (r < bs i) = true := decide_eq_true (by omega)
       have hst := pick_down_ hi0 hv
       go_wp2_with fail
       go_roundw
       case rel => exact ⟨i - 1, by omega, rfl, by rw [← hst]; exact hpi, by first | rfl | trivial⟩
       case measure => simp [intOf]; omega
 case rest =>
  obtain ⟨rfl, hwx⟩ := hcut
  subst hwx
  have hb0 := H1.out.bcell (i := 0) hnp
  have gn : (0 : Int) < n := by omega
  have HP := Lib.hid hp
  clear hp
  by_cases hA : p = 0 ∧ r < bs 0
  · obtain ⟨hp0, hA⟩ := hA
    subst hp0
    have e2 : IntKind.u64.wrap ((bs 0 : Int) - (r : Int)) = ((bs 0 - r : Nat) : Int) := by have := HF.out.b64 0 hnp; rw [IntKind.wrap_u64]; omega
    have g5 : decide (r < bs 0) = true := decide_eq_true hA
    go_wp2_with fail
    go_loopw [63] (fun a wr => ∃ k, k ≤ n ∧ a = .int .i64 k ∧ SpIn KI 4 TS TR TE PT TU wr s gq gb cq n room cnt rb rg (mix bs r k) qs ∧ Upd (fun q => q = gb) wc wr) (fun a _ => n - (intOf a).toNat)
    case atStart => exact ⟨0, by omega, rfl, by rw [mix_zero]; exact H1.out, Upd.refl _ _⟩
    case round =>
     clear c0 c1 c2 c3 z0 z1 z2 z3 hb0
     obtain ⟨k, hk, rfl, h2, hug⟩ := hrel
     obtain ⟨c0, c1, c2, c3, z0, z1, z2, z3⟩ := cells4 h2.blk
     have H2 := Lib.hid h2
     clear h2
     by_cases hlt : k < n
     · have g6 : (k : Int) < n := by omega
       have hbk := H2.out.bcell hlt
       rw [mix_at] at hbk
       have zk := H2.out.bfree k
       have e3 : IntKind.u64.wrap ((bs k : Int) - ((bs 0 - r : Nat) : Int)) = ((bs k - (bs 0 - r) : Nat) : Int) := by have := HF.out.b64 k hlt; have := HF.out.mono 0 k (Nat.zero_le _) hlt; rw [IntKind.wrap_u64]; omega
       go_wp2_with fail
       go_roundw
       case rel => exact ⟨k + 1, by omega, by go_num, by rw [← mix_step]; exact H2.out.setB hlt _, hug.setCell (a := ⟨gb, k, none⟩) (fun _ => rfl) _⟩
       case measure => simp [intOf]; omega
     · have hkn : k = n := by omega
       have g6 : ¬ (k : Int) < n := by omega
       obtain ⟨w2, rfl⟩ : ∃ x, x = wr := ⟨_, rfl⟩
       obtain ⟨k0, k1, k2, -⟩ := cells3 (HX1.out.kept hug (fun e => HPN.out (.inr (.inr (.inl e)))))
       have hUg : Upd (SpOf s gq gb n rb rg) wc w2 := hug.mono (fun k _ h => .inr (.inr (.inl h)))
       obtain ⟨d0, d1, d2, d3, y0, y1, y2, y3⟩ := cells4 H2.out.blk
       have hp := H2.out.pcell hpn
       have hI : ((0 : Nat) : Int) < n := by omega
       go_upto_region 14 with fail
       refine wp_region_tail 10 (by kernel_rfl) (by kernel_rfl) ?_
       simp only [List.take_succ_cons, List.take_zero, List.drop_succ_cons, List.drop_zero]
       repeat (go_big_quiet_step (fail))
       refine wpQuiet_nil ?_
       rintro _ ⟨nq2, rfl⟩
       have H4 := Lib.hid (H2.out.drewN nq2)
       have hUg2 := hUg.drewN nq2
       have hsz4 := hUg2.size
       obtain ⟨fr, len, hPR⟩ := H4.out.ring 0 hpn
       have hput := Lib.hid (RingP.put_room hPR (by have := tot_le qs hpn; have := HT.out; omega) r xf xi xl)
       clear hPR
       go_wp2_with fail
       refine hput.out.mono ?_
       rintro e w3 ⟨rfl, ht3⟩
       go_wp2_with fail
       refine Stage.out ?_
       obtain ⟨g', h3, hnew, hu3⟩ := H4.out.turn hpn ht3
       obtain ⟨f0, f1, f2, f3, x0, x1, x2, x3⟩ := cells4 h3.blk
       have H3 := Lib.hid (h3.setN (cnt + 1))
       have HU := Lib.hid (show Upd (SpOf s gq gb n rb rg) w w3 from (hU1.any _).trans (hUg2.trans hu3 (fun _ _ h => h)) (fun _ _ h => h))
       have HN := Lib.hid hnew
       have hsz2 := hUg.size
       clear h3 hnew hu3 ht3 hput d0 d1 d2 d3 y0 y1 y2 y3 hp
       go_wp2_with fail
       go_ret2
       rw [HP.out]
       refine ⟨rfl, g', ?_, fun k hk => (HN.out k hk).imp id (fun h => by omega), HU.out.setCell (a := ⟨s, 3, none⟩) (fun _ => .inl rfl) _⟩
       have e : SpIn KI 4 TS TR TE PT TU (w3.setCell ⟨s, 3, none⟩ (.int .i64 ((cnt + 1 : Nat) : Int))) s gq gb cq n room (cnt + 1) rb _ (pushed bs r 0) _ := H3.out.congrB (fun i hi => by unfold mix pushed; rw [if_pos (by omega), if_pos ⟨rfl, hA⟩])
       exact e
  · rcases Nat.eq_zero_or_pos p with hp0 | hp0
    · subst hp0
      have g5 : decide (r < bs 0) = false := decide_eq_false (fun h => hA ⟨rfl, h⟩)
      obtain ⟨k0, k1, k2, -⟩ := cells3 HX1.out
      have n5 : ¬ gb = PB := fun e => HPN.out (.inr (.inr (.inl e.symm)))
      have n6 : ¬ PB = gb := fun e => n5 e.symm
      have n1 : ¬ s = gb := H1.out.sb
      have n2 : ¬ gb = s := fun e => H1.out.sb e.symm
      have n3 : ¬ gb = gq := H1.out.bq
      have n4 : ¬ gq = gb := fun e => H1.out.bq e.symm
      have zp := H1.out.bfree 0
      have hyb := H1.out.bcell (i := 0) hpn
      have hpc := H1.out.pcell (i := 0) hpn
      have hI : (((0 : Nat) : Int) : Int) < n := by omega
      have H2 := Lib.hid (H1.out.setB (i := 0) hpn r)
      have hUg : Upd (SpOf s gq gb n rb rg) wc (wc.setCell ⟨gb, 0, none⟩ (.int .u64 r)) := Upd.setCell (S := SpOf s gq gb n rb rg) (Upd.refl _ _) (fun _ => .inr (.inr (.inl rfl))) _
      have hsz2 := hUg.size
      go_upto_region 14 with fail
      refine wp_region_tail 10 (by kernel_rfl) (by kernel_rfl) ?_
      simp only [List.take_succ_cons, List.take_zero, List.drop_succ_cons, List.drop_zero]
      repeat (go_big_quiet_step (fail))
      refine wpQuiet_nil ?_
      rintro _ ⟨nq2, rfl⟩
      have H4 := Lib.hid (H2.out.drewN nq2)
      have hUg2 := hUg.drewN nq2
      have hsz4 := hUg2.size
      obtain ⟨fr, len, hPR⟩ := H4.out.ring 0 hpn
      have hput := Lib.hid (RingP.put_room hPR (by have := tot_le qs hpn; have := HT.out; omega) r xf xi xl)
      clear hPR
      go_wp2_with fail
      refine hput.out.mono ?_
      rintro e w3 ⟨rfl, ht3⟩
      go_wp2_with fail
      refine Stage.out ?_
      obtain ⟨g', h3, hnew, hu3⟩ := H4.out.turn hpn ht3
      clear c0 c1 c2 c3 z0 z1 z2 z3
      obtain ⟨f0, f1, f2, f3, x0, x1, x2, x3⟩ := cells4 h3.blk
      have H3 := Lib.hid (h3.setN (cnt + 1))
      have HU := Lib.hid (show Upd (SpOf s gq gb n rb rg) w w3 from (hU1.any _).trans (hUg2.trans hu3 (fun _ _ h => h)) (fun _ _ h => h))
      have HN := Lib.hid hnew
      clear h3 hnew hu3 ht3 hput hyb hpc zp hb0
      go_wp2_with fail
      go_ret2
      rw [HP.out]
      refine ⟨rfl, g', ?_, fun k hk => (HN.out k hk).imp id (fun h => by omega), HU.out.setCell (a := ⟨s, 3, none⟩) (fun _ => .inl rfl) _⟩
      have e : SpIn KI 4 TS TR TE PT TU (w3.setCell ⟨s, 3, none⟩ (.int .i64 ((cnt + 1 : Nat) : Int))) s gq gb cq n room (cnt + 1) rb _ (pushed bs r 0) _ := H3.out.congrB (fun i hi => by unfold pushed; rw [if_neg (fun h => of_decide_eq_false g5 h.2)])
      exact e
    · have g5 : ((p : Int) == 0) = false := by simp; omega
      obtain ⟨k0, k1, k2, -⟩ := cells3 HX1.out
      have n5 : ¬ gb = PB := fun e => HPN.out (.inr (.inr (.inl e.symm)))
      have n6 : ¬ PB = gb := fun e => n5 e.symm
      have n1 : ¬ s = gb := H1.out.sb
      have n2 : ¬ gb = s := fun e => H1.out.sb e.symm
      have n3 : ¬ gb = gq := H1.out.bq
      have n4 : ¬ gq = gb := fun e => H1.out.bq e.symm
      have zp := H1.out.bfree p
      have hyb := H1.out.bcell (i := p) hpn
      have hpc := H1.out.pcell (i := p) hpn
      have hI : ((p : Int) : Int) < n := by omega
      have H2 := Lib.hid (H1.out.setB (i := p) hpn r)
      have hUg : Upd (SpOf s gq gb n rb rg) wc (wc.setCell ⟨gb, p, none⟩ (.int .u64 r)) := Upd.setCell (S := SpOf s gq gb n rb rg) (Upd.refl _ _) (fun _ => .inr (.inr (.inl rfl))) _
      have hsz2 := hUg.size
      go_upto_region 14 with fail
      refine wp_region_tail 10 (by kernel_rfl) (by kernel_rfl) ?_
      simp only [List.take_succ_cons, List.take_zero, List.drop_succ_cons, List.drop_zero]
      repeat (go_big_quiet_step (fail))
      refine wpQuiet_nil ?_
      rintro _ ⟨nq2, rfl⟩
      have H4 := Lib.hid (H2.out.drewN nq2)
      have hUg2 := hUg.drewN nq2
      have hsz4 := hUg2.size
      obtain ⟨fr, len, hPR⟩ := H4.out.ring p hpn
      have hput := Lib.hid (RingP.put_room hPR (by have := tot_le qs hpn; have := HT.out; omega) r xf xi xl)
      clear hPR
      go_wp2_with fail
      refine hput.out.mono ?_
      rintro e w3 ⟨rfl, ht3⟩
      go_wp2_with fail
      refine Stage.out ?_
      obtain ⟨g', h3, hnew, hu3⟩ := H4.out.turn hpn ht3
      clear c0 c1 c2 c3 z0 z1 z2 z3
      obtain ⟨f0, f1, f2, f3, x0, x1, x2, x3⟩ := cells4 h3.blk
      have H3 := Lib.hid (h3.setN (cnt + 1))
      have HU := Lib.hid (show Upd (SpOf s gq gb n rb rg) w w3 from (hU1.any _).trans (hUg2.trans hu3 (fun _ _ h => h)) (fun _ _ h => h))
      have HN := Lib.hid hnew
      clear h3 hnew hu3 ht3 hput hyb hpc zp hb0
      go_wp2_with fail
      go_ret2
      rw [HP.out]
      refine ⟨rfl, g', ?_, fun k hk => (HN.out k hk).imp id (fun h => by omega), HU.out.setCell (a := ⟨s, 3, none⟩) (fun _ => .inl rfl) _⟩
      have e : SpIn KI 4 TS TR TE PT TU (w3.setCell ⟨s, 3, none⟩ (.int .i64 ((cnt + 1 : Nat) : Int))) s gq gb cq n room (cnt + 1) rb _ (pushed bs r p) _ := H3.out.congrB (fun i hi => by unfold pushed; rw [if_neg (fun h => by omega)])
      exact e
end Go.Proofs.YtpgpjjkeginbbaaGreatDoor.SpP
namespace Go.Proofs.YtpgpjjkeginbbaaGreatDoor.SpP
open Go.RowKit Go.Proofs BigFrame
open RingP (TR TE KI It VI zI ZI)
set_option maxHeartbeats 2000000
set_option maxRecDepth 100000
abbrev zP : Array Value := #[.int .u32 0, .int .u32 0, .int .u64 0]
theorem first_any (w : World) (s gq gb cq n room cnt : Nat) (rb : Nat → Nat) (rg : Nat → Option Nat) (bs : Nat → Nat) (qs : Nat → List It) (i : Nat)
 (h : SpIn KI 4 TS TR TE PT TU w s gq gb cq n room cnt rb rg bs qs) (hi : i ≤ n) (hl : ∀ j, j < i → (qs j).length = 0) (hne : i < n → 0 < (qs i).length) (v : Value) (hv1 : i < n → v = .pointer (some ⟨rb i, 0, none⟩)) (hv2 : i = n → v = .pointer none) :
 Calls Tryz.prog 247 #[.pointer (some ⟨s, 0, none⟩)] w fun e w' => e = .returned v ∧ w = w' := by
 obtain ⟨c0, c1, c2, c3, z0, z1, z2, z3⟩ := cells4 h.blk
 have H := Lib.hid h
 have HL := Lib.hid hl
 have HE := Lib.hid hne
 have HV1 := Lib.hid hv1
 have HV2 := Lib.hid hv2
 have hnl := h.nle
 clear h hl hne hv1 hv2
 go_enter Tryz.func247, Tryz.ntmps247
 go_wp2_with fail
 go_loopw [12] (fun a wr => ∃ k, k ≤ i ∧ a = .int .i64 k ∧ wr = w) (fun a _ => n - (intOf a).toNat)
 case atStart => exact ⟨0, by omega, rfl, rfl⟩
 case round =>
  obtain ⟨k, hk, rfl, rfl⟩ := hrel
  by_cases hlt : k < n
  · have g1 : (k : Int) < n := by omega
    have hp := H.out.pcell hlt
    obtain ⟨fr, len, hPR⟩ := H.out.ring k hlt
    have h2 := hPR.blk.cellAt (i := 2) rfl
    clear hPR
    by_cases hki : k = i
    · subst hki
      have hpos := HE.out hlt
      have g2 : decide ((((qs k).length : Nat) : Int) > 0) = true := decide_eq_true (by omega)
      have g3 : decide (0 < (qs k).length) = true := decide_eq_true hpos
      have g4 : (0 : Int) < (((qs k).length : Nat) : Int) := by omega
      have hv := HV1.out hlt
      generalize (qs k).length = m at *
      go_wp2_with (go_at_call 251; refine (RingP.len_any _ _ _ h2).mono ?_; rintro e w' ⟨rfl, rfl⟩)
      go_ret
      exact ⟨by rw [hv]; rfl, rfl⟩
    · have hz := HL.out k (by omega)
      rw [hz] at h2
      go_wp2_with (go_at_call 251; refine (RingP.len_any _ _ _ h2).mono ?_; rintro e w' ⟨rfl, rfl⟩)
      go_roundw
      case rel => exact ⟨k + 1, by omega, by go_num, by first | rfl | trivial⟩
      case measure => simp [intOf]; omega
  · obtain rfl : k = n := by omega
    have hv := HV2.out (by omega)
    have g1 : ¬ (k : Int) < k := by omega
    go_wp2_with fail
    go_ret
    exact ⟨rfl, rfl⟩
/-- Pop, where something waits. -/
theorem pop_some (w : World) (s gq gb cq n room cnt : Nat) (rb : Nat → Nat) (rg : Nat → Option Nat) (bs : Nat → Nat) (qs : Nat → List It) (i : Nat) (x0 xf xi xl : Nat) (t : List It)
 (h : SpIn KI 4 TS TR TE PT TU w s gq gb cq n room cnt rb rg bs qs) (hi : i < n) (hl : ∀ j, j < i → (qs j).length = 0) (hx : qs i = (x0, xf, xi, xl) :: t) (hc : 0 < cnt) (hr : cnt ≤ room) :
 Calls Tryz.prog 245 #[.pointer (some ⟨s, 0, none⟩)] w fun e w' => e = .returned (.tuple #[.int .u64 x0, .agg #[.int .u32 (xf : Nat), .int .u32 (xi : Nat), .int .u64 (xl : Nat)], .bool true]) ∧
  ∃ g', SpIn KI 4 TS TR TE PT TU w' s gq gb cq n room (cnt - 1) rb (upd rg i g') bs (upd qs i t) ∧
   (∀ k, SpOf s gq gb n rb (upd rg i g') k → SpOf s gq gb n rb rg k ∨ w.heap.size ≤ k) ∧ Upd (SpOf s gq gb n rb rg) w w' := by
 have hUA : Upd Nowhere w (w.alloc (.cells zP TPk)) := (Upd.refl _ _).alloc _
 have hBA : Blk (w.alloc (.cells zP TPk)) w.heap.size zP TPk := Blk.new _ _ _
 have hnr : ¬ SpOf s gq gb n rb rg w.heap.size := fun hk => absurd (h.lts hk) (by omega)
 have hsw : s < w.heap.size := h.lts (.inl rfl)
 have h2 := h.old hUA
 have hf := first_any (w.alloc (.cells zP TPk)) s gq gb cq n room cnt rb rg bs qs i h2 (by omega) hl (fun _ => by rw [hx]; simp) _ (fun _ => rfl) (fun e => by omega)
 have HF := Lib.hid hf
 have hrl := h.rle
 obtain ⟨fr, len, hPR⟩ := h2.ring i hi
 simp only [hx] at hPR
 have HT := Lib.hid (RingP.take_some hPR)
 have H := Lib.hid h2
 have HUA := Lib.hid hUA
 have HBA := Lib.hid hBA
 have HNR := Lib.hid hnr
 have e1 : IntKind.i64.wrap ((cnt : Int) - 1) = ((cnt - 1 : Nat) : Int) := by rw [IntKind.wrap_i64]; omega
 clear hf hPR h h2 hl hx hUA hBA hnr
 go_enter Tryz.func245, Tryz.ntmps245
 go_wp2_with fail
 generalize w.alloc (.cells zP TPk) = w2 at *
 refine HF.out.mono ?_
 rintro e w' ⟨rfl, rfl⟩
 go_wp2_with fail
 refine HT.out.mono ?_
 rintro e w3 ⟨rfl, ht3⟩
 obtain ⟨g', h3, hnew, hu3⟩ := H.out.turn hi ht3
 have hB3 := HBA.out.kept hu3 HNR.out
 have hlt : s < w3.heap.size := h3.lts (.inl rfl)
 obtain ⟨f0, f1, f2, f3, y0, y1, y2, y3⟩ := cells4 h3.blk
 have hrbl := hB3.lt
 have n1 : ¬ w.heap.size = s := by omega
 have n2 : ¬ s = w.heap.size := by omega
 have H5 := Lib.hid (h3.setN (cnt - 1))
 have HU := Lib.hid (hu3.setCell (a := ⟨s, 3, none⟩) (fun _ => .inl rfl) (.int .i64 ((cnt - 1 : Nat) : Int)))
 have HN := Lib.hid hnew
 have HB3 := Lib.hid hB3
 have h4 := H5.out.old ((Upd.refl Nowhere (w3.setCell ⟨s, 3, none⟩ (.int .i64 ((cnt - 1 : Nat) : Int)))).alloc (.cells #[.int .u64 x0, .int .u32 xf, .int .u32 xi, .int .u64 xl] TE))
 have u4 := HU.out.alloc (.cells #[.int .u64 x0, .int .u32 xf, .int .u32 xi, .int .u64 xl] TE)
 have b4 : Blk ((w3.setCell ⟨s, 3, none⟩ (.int .i64 ((cnt - 1 : Nat) : Int))).alloc (.cells #[.int .u64 x0, .int .u32 xf, .int .u32 xi, .int .u64 xl] TE)) w3.heap.size #[.int .u64 x0, .int .u32 xf, .int .u32 xi, .int .u64 xl] TE := by
  have := Blk.new (w3.setCell ⟨s, 3, none⟩ (.int .i64 ((cnt - 1 : Nat) : Int))) #[.int .u64 x0, .int .u32 xf, .int .u32 xi, .int .u64 xl] TE
  rwa [World.size_setCell] at this
 have r4 : Blk ((w3.setCell ⟨s, 3, none⟩ (.int .i64 ((cnt - 1 : Nat) : Int))).alloc (.cells #[.int .u64 x0, .int .u32 xf, .int .u32 xi, .int .u64 xl] TE)) w.heap.size zP TPk := (HB3.out.setOther (a := ⟨s, 3, none⟩) n1 _).alloc _
 have HNW : Hid (w.heap.size < w2.heap.size) := Lib.hid HBA.out.lt
 clear h3 hnew hu3 ht3 HF HT H hB3 H5 HU
 go_upto_region 4 with fail
 generalize (w3.setCell ⟨s, 3, none⟩ (.int .i64 ((cnt - 1 : Nat) : Int))).alloc (.cells #[.int .u64 x0, .int .u32 xf, .int .u32 xi, .int .u64 xl] TE) = w4 at *
 clear f0 f1 f2 f3 y0 y1 y2 y3
 obtain ⟨c0, c1, c2, c3, _, _, _, _⟩ := cells4 b4
 obtain ⟨k0, k1, k2, q0, q1, q2⟩ := cells3 r4
 have H4 := Lib.hid h4
 have HU4 := Lib.hid u4
 clear h4 u4 b4 r4
 have hS : ∀ k, SpOf s gq gb n rb (upd rg i g') k → ¬ k = w.heap.size := fun k hk e => by
  have h1 := HNW.out
  rcases HN.out k hk with h | h
  · rw [e] at h; exact HNR.out h
  · omega
 have HFIN : Hid (∀ W, Upd (fun q => q = w.heap.size) w4 W → SpIn KI 4 TS TR TE PT TU W s gq gb cq n room (cnt - 1) rb (upd rg i g') bs (upd qs i t) ∧ Upd (SpOf s gq gb n rb rg) w W) := Lib.hid (fun W hW => ⟨H4.out.kept hW hS, ((HUA.out.any _).trans HU4.out (fun _ _ h => h)).trans hW (fun k hlt hk => by omega)⟩)
 have n3 : ¬ w.heap.size = w3.heap.size := by omega
 have n4 : ¬ w3.heap.size = w.heap.size := by omega
 clear hS
 go_region
 all_goals
  go_wp2_with fail
  refine bodyPost_ret (v := .tuple #[.int .u64 x0, .agg #[.int .u32 xf, .int .u32 xi, .int .u64 xl], .bool true]) (by simp [results, Tryz.results245, go_sem, k0, k1, k2]) rfl ⟨rfl, g', (HFIN.out _ ?_).1, fun k hk => (HN.out k hk).imp id (fun h => Nat.le_trans (Nat.le_of_lt HNW.out) h), (HFIN.out _ ?_).2⟩
  all_goals (repeat (first | with_reducible exact Upd.refl _ _ | with_reducible refine Upd.drewN ?_ _ | with_reducible refine Upd.drew ?_ | with_reducible refine Upd.setOne ?_ _ _))
end Go.Proofs.YtpgpjjkeginbbaaGreatDoor.SpP
namespace Go.Proofs.YtpgpjjkeginbbaaGreatDoor.SpP
open Go.RowKit Go.Proofs BigFrame
open RingP (TR TE KI It VI zI ZI)
set_option maxHeartbeats 2000000
set_option maxRecDepth 100000
/-- Queues that were made since w0. -/
def Has (w0 w : World) (s n room cnt : Nat) (bs : Nat → Nat) (qs : Nat → List It) : Prop :=
 ∃ gq gb cq rb rg, SpIn KI 4 TS TR TE PT TU w s gq gb cq n room cnt rb rg bs qs ∧ (∀ k, SpOf s gq gb n rb rg k → w0.heap.size ≤ k) ∧ Upd Nowhere w0 w ∧ Fit n bs ∧ tot qs n = cnt ∧ cnt ≤ room
theorem Has.upd {w0 w : World} {s n room cnt : Nat} {bs : Nat → Nat} {qs : Nat → List It} (h : Has w0 w s n room cnt bs qs) : Upd Nowhere w0 w := by
 obtain ⟨_, _, _, _, _, _, _, h, _⟩ := h; exact h
theorem Has.old {w0 w w' : World} {s n room cnt : Nat} {bs : Nat → Nat} {qs : Nat → List It} (h : Has w0 w s n room cnt bs qs) (hu : Upd Nowhere w w') : Has w0 w' s n room cnt bs qs := by
 obtain ⟨gq, gb, cq, rb, rg, h1, h2, h3, h4⟩ := h
 exact ⟨gq, gb, cq, rb, rg, h1.old hu, h2, h3.trans hu (fun _ _ h => h), h4⟩
end Go.Proofs.YtpgpjjkeginbbaaGreatDoor.SpP
namespace Go.Proofs.YtpgpjjkeginbbaaGreatDoor.SpP
open Go.RowKit Go.Proofs BigFrame
open RingP (TR TE KI It VI zI ZI)
set_option maxHeartbeats 2000000
set_option maxRecDepth 100000
/-- Peek, where something waits. -/
theorem peek_some (w : World) (s gq gb cq n room cnt : Nat) (rb : Nat → Nat) (rg : Nat → Option Nat) (bs : Nat → Nat) (qs : Nat → List It) (i : Nat) (x0 xf xi xl : Nat) (t : List It)
 (h : SpIn KI 4 TS TR TE PT TU w s gq gb cq n room cnt rb rg bs qs) (hi : i < n) (hl : ∀ j, j < i → (qs j).length = 0) (hx : qs i = (x0, xf, xi, xl) :: t) :
 Calls Tryz.prog 244 #[.pointer (some ⟨s, 0, none⟩)] w fun e w' => e = .returned (.tuple #[.int .u64 x0, .agg #[.int .u32 (xf : Nat), .int .u32 (xi : Nat), .int .u64 (xl : Nat)], .bool true]) ∧ Upd Nowhere w w' := by
 have hUA : Upd Nowhere w (w.alloc (.cells zP TPk)) := (Upd.refl _ _).alloc _
 have HBA : Hid (Blk (w.alloc (.cells zP TPk)) w.heap.size zP TPk) := Lib.hid (Blk.new _ _ _)
 have h2 := h.old hUA
 have HUA := Lib.hid hUA
 have hf := first_any (w.alloc (.cells zP TPk)) s gq gb cq n room cnt rb rg bs qs i h2 (by omega) hl (fun _ => by rw [hx]; simp) _ (fun _ => rfl) (fun e => by omega)
 have HF := Lib.hid hf
 obtain ⟨fr, len, hPR⟩ := h2.ring i hi
 simp only [hx] at hPR
 have HT := Lib.hid (RingP.head_in hPR)
 clear hf hPR h h2 hUA hl hx
 go_enter Tryz.func244, Tryz.ntmps244
 go_wp2_with fail
 generalize w.alloc (.cells zP TPk) = w2 at *
 refine HF.out.mono ?_
 rintro e w' ⟨rfl, rfl⟩
 go_wp2_with fail
 refine HT.out.mono ?_
 rintro e w3 ⟨rfl, u3⟩
 have b4 : Blk (w3.alloc (.cells #[.int .u64 x0, .int .u32 xf, .int .u32 xi, .int .u64 xl] TE)) w3.heap.size #[.int .u64 x0, .int .u32 xf, .int .u32 xi, .int .u64 xl] TE := Blk.new _ _ _
 have r4 : Blk (w3.alloc (.cells #[.int .u64 x0, .int .u32 xf, .int .u32 xi, .int .u64 xl] TE)) w.heap.size zP TPk := (HBA.out.kept u3 id).alloc _
 have u4 : Upd Nowhere w (w3.alloc (.cells #[.int .u64 x0, .int .u32 xf, .int .u32 xi, .int .u64 xl] TE)) := (HUA.out.trans u3 (fun _ _ h => h)).alloc _
 have hle := (HBA.out.kept u3 id).lt
 clear u3
 go_upto_region 2 with fail
 generalize w3.alloc (.cells #[.int .u64 x0, .int .u32 xf, .int .u32 xi, .int .u64 xl] TE) = w4 at *
 obtain ⟨c0, c1, c2, c3, _, _, _, _⟩ := cells4 b4
 obtain ⟨k0, k1, k2, q0, q1, q2⟩ := cells3 r4
 clear b4 r4
 have hUF := u4
 have n3 : ¬ w.heap.size = w3.heap.size := fun e => by rw [← e] at hle; omega
 have n4 : ¬ w3.heap.size = w.heap.size := fun e => by rw [e] at hle; omega
 go_region
 all_goals
  go_wp2_with fail
  exact bodyPost_ret (v := .tuple #[.int .u64 x0, .agg #[.int .u32 xf, .int .u32 xi, .int .u64 xl], .bool true]) (by simp [results, Tryz.results244, go_sem, k0, k1, k2]) rfl ⟨rfl, (by repeat (first | with_reducible exact hUF | with_reducible refine Upd.drewN ?_ _ | with_reducible refine Upd.drew ?_ | with_reducible refine Upd.setNew ?_ (Nat.le_refl _) _))⟩
/-- Peek, where nothing waits. -/
theorem peek_none (w : World) (s gq gb cq n room cnt : Nat) (rb : Nat → Nat) (rg : Nat → Option Nat) (bs : Nat → Nat) (qs : Nat → List It)
 (h : SpIn KI 4 TS TR TE PT TU w s gq gb cq n room cnt rb rg bs qs) (hl : ∀ j, j < n → (qs j).length = 0) :
 Calls Tryz.prog 244 #[.pointer (some ⟨s, 0, none⟩)] w fun e w' => e = .returned (.tuple #[.int .u64 0, .agg #[.int .u32 0, .int .u32 0, .int .u64 0], .bool false]) ∧ Upd Nowhere w w' := by
 have hUA : Upd Nowhere w (w.alloc (.cells zP TPk)) := (Upd.refl _ _).alloc _
 have HBA : Hid (Blk (w.alloc (.cells zP TPk)) w.heap.size zP TPk) := Lib.hid (Blk.new _ _ _)
 have h2 := h.old hUA
 have HUA := Lib.hid hUA
 have HF := Lib.hid (first_any (w.alloc (.cells zP TPk)) s gq gb cq n room cnt rb rg bs qs n h2 (Nat.le_refl _) hl (fun h => by omega) _ (fun h => by omega) (fun _ => rfl))
 have HT := fun u => Lib.hid (RingP.head_nil u)
 clear h h2 hUA hl
 go_enter Tryz.func244, Tryz.ntmps244
 go_wp2_with fail
 generalize w.alloc (.cells zP TPk) = w2 at *
 refine HF.out.mono ?_
 rintro e w' ⟨rfl, rfl⟩
 go_wp2_with fail
 refine (HT _).out.mono ?_
 rintro e w3 ⟨rfl, u3⟩
 have b4 : Blk (w3.alloc (.cells #[.int .u64 0, .int .u32 0, .int .u32 0, .int .u64 0] TE)) w3.heap.size #[.int .u64 0, .int .u32 0, .int .u32 0, .int .u64 0] TE := Blk.new _ _ _
 have r4 : Blk (w3.alloc (.cells #[.int .u64 0, .int .u32 0, .int .u32 0, .int .u64 0] TE)) w.heap.size zP TPk := (HBA.out.kept u3 id).alloc _
 have u4 : Upd Nowhere w (w3.alloc (.cells #[.int .u64 0, .int .u32 0, .int .u32 0, .int .u64 0] TE)) := (HUA.out.trans u3 (fun _ _ h => h)).alloc _
 have hle := (HBA.out.kept u3 id).lt
 clear u3
 go_upto_region 2 with fail
 generalize w3.alloc (.cells #[.int .u64 0, .int .u32 0, .int .u32 0, .int .u64 0] TE) = w4 at *
 obtain ⟨c0, c1, c2, c3, _, _, _, _⟩ := cells4 b4
 obtain ⟨k0, k1, k2, q0, q1, q2⟩ := cells3 r4
 clear b4 r4
 have hUF := u4
 have n3 : ¬ w.heap.size = w3.heap.size := fun e => by rw [← e] at hle; omega
 have n4 : ¬ w3.heap.size = w.heap.size := fun e => by rw [e] at hle; omega
 go_region
 all_goals
  go_wp2_with fail
  exact bodyPost_ret (v := .tuple #[.int .u64 0, .agg #[.int .u32 0, .int .u32 0, .int .u64 0], .bool false]) (by simp [results, Tryz.results244, go_sem, k0, k1, k2]) rfl ⟨rfl, (by repeat (first | with_reducible exact hUF | with_reducible refine Upd.drewN ?_ _ | with_reducible refine Upd.drew ?_ | with_reducible refine Upd.setNew ?_ (Nat.le_refl _) _))⟩
end Go.Proofs.YtpgpjjkeginbbaaGreatDoor.SpP

