/- TopAhead, TopAhead2, one behind the other. -/
import Derived.Test.YtpgpjjkeginbbaaGreatDoorMtAh1
import Derived.Test.YtpgpjjkeginbbaaGreatDoorMtEa6
import Derived.Test.YtpgpjjkeginbbaaGreatDoorMtBr2
import Derived.Test.YtpgpjjkeginbbaaGreatDoorMtSh11
import Derived.Test.YtpgpjjkeginbbaaGreatDoorMeTk
namespace Go.Proofs.YtpgpjjkeginbbaaGreatDoor.Ah
open Go.RowKit Go.Proofs BigFrame
open Ea (Eg OkE egC nxt VC0 TCl ClsAt e_now e_busy e_tick e_len e_push e_next newE)
open Tree (flatN flatN_len nd NodesAt row_nodes treeC m_new m_push m_pop Env)
open Br (Stp StpsIn stL)
set_option maxHeartbeats 40000000
set_option maxRecDepth 1000000
set_option linter.unusedSimpArgs false
abbrev TNo : TypeId := 27
abbrev TSp : TypeId := 41
abbrev TPk : TypeId := 44
abbrev TCo : TypeId := 62
abbrev ZCl : Value := .agg #[.int .i64 0, .int .i64 0, .bool false, .int .i64 0, .int .i64 0, .int .i64 0, .int .u64 0, .int .u64 0, .int .u64 0, .int .i64 0, .int .u64 0, .int .u64 0, .int .u64 0, .int .i64 0, .int .u64 0, .int .u64 0]
theorem infoCl : (Tryz.prog.info? TCl).map (fun i => (i.zero, i.size, i.bytes)) = some (some (.agg #[.int .i64 0, .int .i64 0, .bool false, .int .i64 0, .int .i64 0, .int .i64 0, .int .u64 0, .int .u64 0, .int .u64 0, .int .i64 0, .int .u64 0, .int .u64 0, .int .u64 0, .int .i64 0, .int .u64 0, .int .u64 0]), 16, 128) := by kernel_rfl
/-- The cells of so many classes. -/
abbrev vcR (n : Nat) : List Value := slotL (fun _ => VC0.toList) n
theorem vcR_at {n i j : Nat} {v : Value} (hi : i < n) (hv : VC0[j]? = some v) : (vcR n)[i * 16 + j]? = some v := by
 have hj : j < 16 := by
  rcases Nat.lt_or_ge j 16 with h | h
  · exact h
  · rw [Array.getElem?_eq_none (by exact h)] at hv; cases hv
 rw [slotL_at (f := fun _ => VC0.toList) (W := 16) (fun _ => rfl) hi hj, Array.getElem?_toList]
 exact hv
theorem cls_row {w0 w : World} {L : List Comp} {n g c : Nat} (h : Made w0 w L) (hC : rowW TCl 16 (.slice (some ⟨g, 0, none⟩) n c) n (vcR n) ∈ L) : ClsAt w (some ⟨g, 0, none⟩) n := fun i hi => ⟨g, 0, rfl, fun j v hv => by
 rw [Nat.zero_add]
 exact m_cell h hC (vcR_at hi hv)⟩
theorem m_blk {w0 w : World} {l : List Comp} (h : Made w0 w l) (c : Array Value) (t : TypeId) : Made w0 (w.alloc (.cells c t)) (blkC w.heap.size c t :: l) :=
 h.more (C := blkC w.heap.size c t) (o := fun k => k = w.heap.size) ⟨Blk.new _ _ _, fun _ => Iff.rfl⟩ (fun k hk => by rw [hk]; exact Nat.le_refl _) ((Upd.refl _ _).alloc (.cells c t))
theorem ahead_walk {w : World} {cl pc nl cp2 : Nat} {ad2 : Option Addr} {l : List Stp} (hcl : cl ≤ 255) (hpc : pc ≤ 65535) (E : Env w) (hln : l.length = nl) (h150 : nl ≤ 150) (hst : StpsIn w ad2 l) (hlen : ∀ x ∈ l, x.len ≤ 18446744073709551615) :
 Calls Tryz.prog 4 #[.int .u8 cl, .int .u16 pc, .slice ad2 nl cp2] w fun e w' => e = .returned (.bool true) ∧ Upd Nowhere w w' := by
 obtain ⟨i0, hi, hz0, hz1, hz2⟩ := info_parts Tree.infoNo
 obtain ⟨j0, gi, gz0, gz1, gz2⟩ := info_parts infoCl
 obtain ⟨n0, hn0⟩ : ∃ n0, cl % 8 = n0 := ⟨_, rfl⟩
 obtain ⟨n, hn⟩ : ∃ n, n0 + 1 = n := ⟨_, rfl⟩
 obtain ⟨P, hP⟩ : ∃ P, pc + 1 = P := ⟨_, rfl⟩
 have e1 : (cl : Int).tmod 8 = (n0 : Int) := by rw [Int.tmod_eq_emod_of_nonneg (by omega)]; omega
 have e1' : (cl : Int) % 8 = (n0 : Int) := by omega
 have e2 : IntKind.u8.wrap (n0 : Int) = (n0 : Int) := by rw [IntKind.wrap_u8]; omega
 have e3 : IntKind.i64.wrap (n0 : Int) = (n0 : Int) := by rw [IntKind.wrap_i64]; omega
 have e4 : (n0 : Int) + 1 = (n : Int) := by omega
 have e5 : (pc : Int) + 1 = (P : Int) := by omega
 have e6 : IntKind.u64.wrap (pc : Int) = (pc : Int) := by rw [IntKind.wrap_u64]; omega
 have e7 : IntKind.u64.wrap (P : Int) = (P : Int) := by rw [IntKind.wrap_u64]; omega
 have hN1 : 1 ≤ n := by omega
 have hN8 : n ≤ 8 := by omega
 have HP := Lib.hid (And.intro (show 1 ≤ P by omega) (show P ≤ 65536 by omega))
 have HE := Lib.hid E
 have HLN := Lib.hid hln
 have HST := Lib.hid hst
 have HLE := Lib.hid hlen
 have d5 : decide ((nl : Int) > 150) = false := decide_eq_false (by omega)
 have d6 : decide (150 < nl) = false := decide_eq_false (by omega)
 clear hln hst hlen E hn0 hn hP hcl hpc
 go_enter Tryz.func4, Tryz.ntmps4
 go_upto_region 6 with fail
 have hC0 := m_blk (Made.start w) #[.slice none 0 0, .slice none 0 0, .int .u64 (P : Nat)] TCo
 have hM0 := m_nil (m_more hC0 (Tree.own_one (w.alloc (.cells #[.slice none 0 0, .slice none 0 0, .int .u64 (P : Nat)] TCo)) #[.int .i64 0, .int .i64 2, .int .u64 0, .int .u64 0] TNo 4 rfl) ((Upd.refl _ _).alloc _)) TCl 16
 rw [World.size_alloc] at hM0
 obtain ⟨CB, hCB⟩ : ∃ CB, w.heap.size = CB := ⟨_, rfl⟩
 obtain ⟨NB, hNB⟩ : ∃ NB, CB + 1 = NB := ⟨_, rfl⟩
 rw [hCB, hNB] at hM0
 try simp only [hCB, hNB]
 have HM0 : Hid (Made w ((w.alloc (.cells #[.slice none 0 0, .slice none 0 0, .int .u64 (P : Nat)] TCo)).alloc (.cells #[.int .i64 0, .int .i64 2, .int .u64 0, .int .u64 0] TNo)) [rowW TCl 16 (.slice none 0 0) 0 (vcR 0), rowW TNo 4 (.slice (some ⟨NB, 0, none⟩) 1 1) 1 ((flatN 2 (List.range 0) 0).flatMap nd), blkC CB #[.slice none 0 0, .slice none 0 0, .int .u64 (P : Nat)] TCo]) := Lib.hid hM0
 clear hC0 hM0 hCB hNB
 generalize (w.alloc (.cells #[.slice none 0 0, .slice none 0 0, .int .u64 (P : Nat)] TCo)).alloc (.cells #[.int .i64 0, .int .i64 2, .int .u64 0, .int .u64 0] TNo) = wA at *
 go_upto_region 7 with fail
 go_loopg [9, 10, 39] (n + 1) (fun gk v9 _ v39 wr => ∃ (i : Nat) (va : Value) (ab : Option Addr) (cb : Nat), n - i < gk ∧ i ≤ n ∧ v9 = .slice ab (i + 1) cb ∧ v39 = .int .i64 i ∧ Hid (Made w wr [rowW TCl 16 va i (vcR i), rowW TNo 4 (.slice ab (i + 1) cb) (i + 1) ((flatN 2 (List.range i) 0).flatMap nd), blkC CB #[va, .slice none 0 0, .int .u64 (P : Nat)] TCo]))
 case atStart => exact ⟨0, _, _, _, by omega, Nat.zero_le _, rfl, rfl, HM0⟩
 case round =>
  obtain ⟨i, va, ab, cb, hgk, hin, rfl, rfl, HM⟩ := hrel
  obtain ⟨wB, rfl⟩ : ∃ x, x = wr := ⟨_, rfl⟩
  have HGK := Lib.hid hgk
  clear hgk HM0
  rcases Nat.lt_or_ge i n with hlt | hge
  · have hI : (i : Int) < n := by omega
    have e8 : IntKind.u64.wrap (i : Int) = (i : Int) := by rw [IntKind.wrap_u64]; omega
    have hbP := Shm.made_blk (l1 := [rowW TCl 16 va i (vcR i), rowW TNo 4 (.slice ab (i + 1) cb) (i + 1) ((flatN 2 (List.range i) 0).flatMap nd)]) HM.out
    have c0 : wB.cell? ⟨CB, 0, none⟩ = some va := hbP.cellAt rfl
    have z0 := hbP.free 0
    have hi8 : i ≤ 999999999 := by omega
    clear hbP
    go_upto_region 10 with (at_builtin; go_loud (refine wpList_push rfl _ _ 59 rfl 0 TCl j0 ZCl 16 128 Tryz.underlying59 gi gz0 gz1 gz2 rfl (by decide) (by decide) va i (vcR i) rfl (m_own (HM.out.old ((Upd.refl Nowhere wB).alloc _)) mem0) wB.heap.size 1 VC0.toList rfl rfl (new_cells wB VC0 _) (by simp [Value.oneCell']) hi8 (Nat.zero_le _) ?_; intro v6 w6 hown6 hu6 hn6; obtain ⟨a6, c6, rfl⟩ := row_form hown6; have HM6 := Lib.hid (m_row [] _ (HM.out.old ((Upd.refl Nowhere wB).alloc (.cells VC0 TCl))) (Upd.refl _ _) hown6 hu6 hn6); have hb6 := Shm.made_blk (l1 := [rowW TCl 16 (.slice a6 (i + 1) c6) (i + 1) (vcR i ++ VC0.toList), rowW TNo 4 _ (i + 1) ((flatN 2 (List.range i) 0).flatMap nd)]) HM6.out; have c0' : w6.cell? ⟨CB, 0, none⟩ = some va := hb6.cellAt rfl; have z0' := hb6.free 0; clear hown6 hu6 hn6 c0 z0 hb6))
    have HM7 : Hid (Made w (w6.setCell ⟨CB, 0, none⟩ (.slice a6 (i + 1) c6)) [rowW TCl 16 (.slice a6 (i + 1) c6) (i + 1) (vcR (i + 1)), rowW TNo 4 (.slice ab (i + 1) cb) (i + 1) ((flatN 2 (List.range i) 0).flatMap nd), blkC CB #[.slice a6 (i + 1) c6, .slice none 0 0, .int .u64 (P : Nat)] TCo]) := Lib.hid (by
     have h9 := Shm.made_set (l1 := [rowW TCl 16 (.slice a6 (i + 1) c6) (i + 1) (vcR i ++ VC0.toList), rowW TNo 4 (.slice ab (i + 1) cb) (i + 1) ((flatN 2 (List.range i) 0).flatMap nd)]) HM6.out 0 (.slice a6 (i + 1) c6)
     rw [show vcR (i + 1) = vcR i ++ VC0.toList from slotL_succ _ _]
     exact h9)
    clear c0' z0' HM6 HM
    generalize w6.setCell ⟨CB, 0, none⟩ (.slice a6 (i + 1) c6) = w7 at *
    have hfl : (flatN 2 (List.range i) 0).flatMap nd ++ [.int .i64 0, .int .i64 1, .int .u64 (i : Nat), .int .u64 0] = (flatN 2 (List.range (i + 1)) 0).flatMap nd := by
     rw [List.range_succ]
     simp [flatN, nd]
    have HFL := Lib.hid hfl
    clear hfl
    have hi9 : i + 1 ≤ 999999999 := by omega
    go_wp2_with (at_builtin; go_loud (refine wpList_push rfl _ _ 28 rfl 0 TNo i0 Tree.ZNo 4 32 Tryz.underlying28 hi hz0 hz1 hz2 rfl (by decide) (by decide) (.slice ab (i + 1) cb) (i + 1) _ rfl (m_own (HM7.out.old ((Upd.refl Nowhere w7).alloc _)) mem1) w7.heap.size 1 [.int .i64 0, .int .i64 1, .int .u64 (i : Nat), .int .u64 0] rfl rfl (new_cells w7 #[.int .i64 0, .int .i64 1, .int .u64 (i : Nat), .int .u64 0] _) (by simp [Value.oneCell']) hi9 (Nat.zero_le _) ?_; intro v8 w8 hown8 hu8 hn8; rw [HFL.out] at hown8; obtain ⟨a8, c8, rfl⟩ := row_form hown8; have HM8 := Lib.hid (m_row [_] _ (HM7.out.old ((Upd.refl Nowhere w7).alloc (.cells #[.int .i64 0, .int .i64 1, .int .u64 (i : Nat), .int .u64 0] TNo))) (Upd.refl _ _) hown8 hu8 hn8); clear hown8 hu8 hn8))
    go_wp2_with fail
    go_roundg (n - i)
    case rel => exact ⟨i + 1, _, _, _, by omega, by omega, rfl, by first | rfl | go_num, HM8⟩
    case measure => have := HGK.out; omega
  · obtain rfl : i = n := by omega
    have dI : decide ((i : Int) < i) = false := by simp
    obtain ⟨gc, cc, rfl⟩ := m_arr HM.out mem0 hN1
    have hcls := cls_row HM.out mem0
    obtain ⟨ad', c', he, hnd⟩ := row_nodes (m_own HM.out mem1) (by rw [flatN_len, List.length_range])
    rw [flatN_len, List.length_range] at he
    injection he with he1 he2 he3
    subst he1 he3
    have hbP := Shm.made_blk (l1 := [_, _]) HM.out
    have HNE := Lib.hid (newE (cc := cc) hcls hN1 hN8 HP.out.1 HP.out.2)
    have HND := Lib.hid hnd
    have HU := Lib.hid HM.out.upd
    obtain ⟨b0, b1, b2, -⟩ := cells3 hbP
    clear hcls hnd he2 hbP HM hi hz0 hz1 hz2 gi gz0 gz1 gz2 e1 e1' e2 e3 e4 e5 e6 e7 d5 d6 hge
    go_wp2_with fail
    refine HNE.out.mono ?_
    rintro e w2 ⟨eb, own, vc, Q, rfl, hEg, hQ, hge2, u2⟩
    have HU2 := Lib.hid (HU.out.trans u2 (fun _ _ h => h))
    have hM2 : Made wB w2 [egC eb ⟨vc, P, 0, 0, Q⟩] := (Made.start wB).more (C := egC eb ⟨vc, P, 0, 0, Q⟩) hEg hge2 u2
    have HE1 := Lib.hid (HE.out.old HU.out)
    have hMN := m_new (room := 4096) (cp := cb) hM2 HE1.out (Tree.NodesAt.old HND.out u2) (by rw [flatN_len]; omega) (by rw [flatN_len, List.length_range]; omega) (Tree.flatN_ok (by omega) (by omega)) (by omega) (by omega)
    rw [flatN_len, List.length_range] at hMN
    have hsh : (Tree.shOf (flatN 2 (List.range i) 0)).Ok := Tree.shOf_ok (Tree.flatN_ok (by omega) (by omega)) (by rw [flatN_len, List.length_range]; omega) (by rw [flatN_len, List.length_range]; omega) (Tree.flatN_fit (fun x hx => by have := List.mem_range.1 hx; omega) (by omega))
    have hff := Tree.flat_sh 2 (List.range i) 0
    obtain ⟨sh, hshe⟩ : ∃ sh, Tree.shOf (flatN 2 (List.range i) 0) = sh := ⟨_, rfl⟩
    rw [hshe] at hMN hsh hff
    have HMN := Lib.hid hMN
    have HSH := Lib.hid hsh
    have HFF := Lib.hid hff
    have HA0 : Hid (Ah i sh Tree.s0 (qs ⟨vc, P, 0, 0, Q⟩) (List.replicate i 0)) := Lib.hid (by
     have h9 := ah0 i sh
     rw [← hQ] at h9
     exact h9)
    have HO0 := Lib.hid (e0_ok (vc := vc) hN1 hN8 HP.out.1 HP.out.2 hQ)
    clear hEg hQ hge2 u2 hM2 hMN hsh hff hshe HNE HND b0 b1 b2
    go_wp2_with fail
    refine HMN.out.mono ?_
    rintro e w4 ⟨L2, rfl, h4⟩
    have H4 := Lib.hid (h4.perm (List.Perm.swap _ _ _))
    clear h4 HMN
    go_wp2_with fail
    go_loopg [15, 16, 17, 18, 19, 20, 21, 22, 23, 81] (nl + 1) (fun gk _ _ _ _ _ _ _ _ _ v81 wr => ∃ (j : Nat) (E : Eg) (s : Tree.TS) (W : List Nat) (c : Nat), nl - j < gk ∧ j ≤ nl ∧ v81 = .int .i64 j ∧ c ≤ 2 * j ∧ s.m ≤ c ∧ Hid (Ah i sh s (qs E) W) ∧ Hid (OkE E c) ∧ Hid (Made wB wr [egC eb E, treeC L2 sh 4096 s (j * 10000000)]))
    case atStart => exact ⟨0, _, _, _, 0, by omega, Nat.zero_le _, rfl, Nat.zero_le _, Nat.zero_le _, HA0, HO0, H4⟩
    case round =>
     obtain ⟨j, E, s, W, c, hgk, hin, rfl, hcj, hsm, HAh, HOk, HM⟩ := hrel
     obtain ⟨wD, rfl⟩ : ∃ x, x = wr := ⟨_, rfl⟩
     have HGK := Lib.hid hgk
     clear hgk HA0 HO0 H4
     rcases Nat.lt_or_ge j nl with hlt | hge
     · obtain ⟨x, hx⟩ : ∃ x, l[j]? = some x := ⟨l[j]'(by rw [HLN.out]; exact hlt), by simp⟩
       have hxl := HLE.out x (List.mem_of_getElem? hx)
       obtain ⟨ga, oa, rfl, r0, r1, r2⟩ := (HST.out.old (HU.out.trans HM.out.upd (fun _ _ h => h))) j x hx
       obtain ⟨lv, fl, len⟩ := x
       dsimp only at r0 r1 r2 hxl
       have hI : (j : Int) < nl := by omega
       obtain ⟨_, _, hgt⟩ := Tree.m_tree [egC eb E] [] HM.out
       have HGT := Lib.hid hgt
       have hkk : j * 10000000 + 20000000 < 18446744073709551615 := by omega
       have hkk2 : (j + 1) * 10000000 = j * 10000000 + 10000000 := Nat.succ_mul j _
       have HXL := Lib.hid hxl
       clear hx hgt hxl
       go_upto_region 19 with fail
       have hMX := m_blk HM.out #[.bool lv, .int .i64 fl, .int .u64 (len : Nat)] TSp
       obtain ⟨XB, hXB⟩ : ∃ XB, wD.heap.size = XB := ⟨_, rfl⟩
       rw [hXB] at hMX
       try simp only [hXB]
       have HMX := Lib.hid hMX
       clear hMX hXB r0 r1 r2 HM
       generalize wD.alloc (.cells #[.bool lv, .int .i64 fl, .int .u64 (len : Nat)] TSp) = wE at *
       obtain ⟨x0, x1, x2, -⟩ := cells3 (Shm.made_blk (l1 := []) HMX.out)
       obtain ⟨U, hU⟩ : ∃ U : Nat, IntKind.u64.wrap fl = (U : Int) := ⟨(IntKind.u64.wrap fl).toNat, by rw [IntKind.wrap_u64]; omega⟩
       obtain ⟨a, ha⟩ : ∃ a, U % i = a := ⟨_, rfl⟩
       have hai : a < i := by rw [← ha]; exact Nat.mod_lt _ (by omega)
       have e1 : IntKind.u64.wrap (i : Int) = (i : Int) := by rw [IntKind.wrap_u64]; omega
       have e2 : (U : Int).tmod (i : Int) = (a : Int) := by rw [Int.tmod_eq_emod_of_nonneg (by omega)]; omega
       have e2' : (U : Int) % (i : Int) = (a : Int) := by omega
       have hK0 : ¬ (i : Int) = 0 := by omega
       have hK1 : ¬ i = 0 := by omega
       clear ha
       obtain ⟨a1, ha1⟩ : ∃ a1, a + 1 = a1 := ⟨_, rfl⟩
       have e3 : IntKind.u32.wrap (a : Int) = (a : Int) := by rw [IntKind.wrap_u32]; omega
       have e5 : IntKind.u32.wrap (j : Int) = (j : Int) := by rw [IntKind.wrap_u32]; omega
       have e6 : IntKind.i64.wrap (a : Int) = (a : Int) := by rw [IntKind.wrap_i64]; omega
       have e4 : (a : Int) + 1 = (a1 : Int) := by omega
       have e7 : IntKind.i64.wrap (a1 : Int) = (a1 : Int) := by rw [IntKind.wrap_i64]; omega
       have HA1 := Lib.hid ha1
       clear ha1
       go_upto_region 21 with fail
       have h6 := m_blk HMX.out #[.int .u32 (a : Nat), .int .u32 (j : Nat), .int .u64 (len : Nat)] TPk
       obtain ⟨PB, hPB⟩ : ∃ PB, wE.heap.size = PB := ⟨_, rfl⟩
       rw [hPB] at h6
       try simp only [hPB]
       obtain ⟨y0, y1, y2, -⟩ := cells3 (Shm.made_blk (l1 := []) h6)
       have x0' := (cells3 (Shm.made_blk (l1 := [blkC PB _ TPk]) h6)).1
       have H6 := Lib.hid h6
       clear h6 hPB HMX x0 x1 x2 hU
       generalize wE.alloc (.cells #[.int .u32 (a : Nat), .int .u32 (j : Nat), .int .u64 (len : Nat)] TPk) = w6 at *
       cases lv with
       | false =>
         obtain ⟨v, E', s', W', c', HEP, hp, hA', hO', hc', hs'⟩ : ∃ (v : Nat) (E' : Eg) (s' : Tree.TS) (W' : List Nat) (c' : Nat), Hid (∀ u, Made wB u [blkC PB #[.int .u32 (a : Nat), .int .u32 (j : Nat), .int .u64 (len : Nat)] TPk, blkC XB #[.bool false, .int .i64 fl, .int .u64 (len : Nat)] TSp, egC eb E, treeC L2 sh 4096 s (j * 10000000)] → Calls Tryz.prog 14 #[.pointer (some ⟨eb, 0, none⟩), .int .i64 a, .int .u64 0, .agg #[.int .u32 (a : Nat), .int .u32 (j : Nat), .int .u64 (len : Nat)]] u fun e w' => e = .returned (.int .i64 (v : Nat)) ∧ Made wB w' [blkC PB #[.int .u32 (a : Nat), .int .u32 (j : Nat), .int .u64 (len : Nat)] TPk, blkC XB #[.bool false, .int .i64 fl, .int .u64 (len : Nat)] TSp, egC eb E', treeC L2 sh 4096 s (j * 10000000)]) ∧ Tree.push sh 4096 s 0 (a1 : Nat) (a, j, len) = (v, s') ∧ Ah i sh s' (qs E') W' ∧ OkE E' c' ∧ c' ≤ c + 1 ∧ s'.m ≤ c' := by
          have hql : E.q.length = i := by
           have h9 := HAh.out.len
           unfold qs at h9
           rw [List.length_map] at h9
           exact h9
          rw [← HA1.out]
          by_cases hb : len = 0 ∨ 65535 < len
          · exact ⟨12, E, s, W, c, Lib.hid (fun u h => e_len (l1 := [_, _]) h (by omega) 0 a j len hb), st_bad HFF.out HAh.out hai j len hb, HAh.out, HOk.out, by omega, hsm⟩
          · obtain ⟨⟨k, b, se⟩, hx⟩ : ∃ x, E.q[a]? = some x := ⟨E.q[a]'(by omega), by simp⟩
            obtain ⟨s', W', a1, a2, a3, a4, a5⟩ := st_push HFF.out HAh.out HOk.out hsm (by omega) hx j len (by omega) (by omega)
            exact ⟨0, _, s', W', c + 1, Lib.hid (fun u h => e_push (l1 := [_, _]) h HOk.out (by omega) hx a5 0 a j len (by omega) (by omega)), a1, a2, a3, Nat.le_refl _, a4⟩
         have HTP := fun u (h : Made wB u [blkC PB #[.int .u32 (a : Nat), .int .u32 (j : Nat), .int .u64 (len : Nat)] TPk, blkC XB #[.bool false, .int .i64 fl, .int .u64 (len : Nat)] TSp, egC eb E', treeC L2 sh 4096 s (j * 10000000)]) => Lib.hid (m_push (t := 0) [blkC PB _ TPk, blkC XB _ TSp, egC eb E'] [] h HE1.out HSH.out (by omega) hkk (by omega) a1 a j len (by omega) (by omega) HXL.out hp)
         have HA' := Lib.hid hA'
         have HO' := Lib.hid hO'
         have hv : ((v : Int) != (v : Int)) = false := by simp
         clear hp hA' hO' HGT
         go_upto_region 22 with fail
         refine wp_region_held_drew (S := fun w' => w'.cell? ⟨PB, 0, none⟩ = some (.int .u32 a) ∧ w'.cell? ⟨PB, 1, none⟩ = some (.int .u32 j) ∧ w'.cell? ⟨PB, 2, none⟩ = some (.int .u64 len)) (by kernel_rfl) ⟨cell_old ((Upd.refl Nowhere w6).drew) y0, cell_old ((Upd.refl Nowhere w6).drew) y1, cell_old ((Upd.refl Nowhere w6).drew) y2⟩ (fun hHeld => ?_)
         refine tkq 0 ?_
         refine tkq 1 ?_
         refine tkq 2 ?_
         refine tkq 4 ?_
         refine tkq 5 ?_
         refine tkq 6 ?_
         refine tkq 7 ?_
         refine rdq 3 fun K hK => ?_
         go_simp
         refine (HEP.out _ (H6.out.old ((Upd.refl Nowhere w6).drew))).mono ?_
         rintro e w7 ⟨rfl, h7⟩
         obtain ⟨t0, t1, t2, -⟩ := cells3 (Shm.made_blk (l1 := []) h7)
         have H7 := Lib.hid h7
         refine hK.out _ _ ⟨t0, t1, t2⟩ (fun hHeld => ?_)
         clear hK K h7
         refine rdq 8 fun K hK => ?_
         go_simp
         refine (HTP _ H7.out).out.mono ?_
         rintro e w8 ⟨rfl, h8⟩
         obtain ⟨t0', t1', t2', -⟩ := cells3 (Shm.made_blk (l1 := []) h8)
         have H8 := Lib.hid h8
         refine hK.out _ _ ⟨t0', t1', t2'⟩ (fun hHeld => ?_)
         clear hK K h8
         refine tkq 9 ?_
         refine wpAnyH_done (by kernel_rfl) ?_ _
         clear y0 y1 y2 x0' t0 t1 t2 t0' t1' t2' hHeld H7 H6
         go_wp2_with fail
         go_roundg (nl - j)
         case rel => exact ⟨j + 1, E', s', W', c', by omega, by omega, by first | rfl | go_num, by omega, hs', HA', HO', Lib.hid (by rw [hkk2]; exact H8.out.drop.drop)⟩
         case measure => have := HGK.out; omega
       | true =>
         go_upto_region 24 with fail
         obtain ⟨nw, hnw⟩ : ∃ nw, E.now = nw := ⟨_, rfl⟩
         obtain ⟨bz, hbz⟩ : ∃ bz, E.busy = bz := ⟨_, rfl⟩
         obtain ⟨mn, hmn⟩ : ∃ mn, min nw bz = mn := ⟨_, rfl⟩
         obtain ⟨dt, hdt⟩ : ∃ dt, bz - mn = dt := ⟨_, rfl⟩
         have hbl := HOk.out.busy
         have hnl := HOk.out.now
         rw [hbz] at hbl
         rw [hnw] at hnl
         have HBU := Lib.hid (e_busy (l1 := [blkC PB _ TPk, blkC XB _ TSp]) H6.out)
         have HNW := Lib.hid (e_now (l1 := [blkC PB _ TPk, blkC XB _ TSp]) H6.out)
         have HTK := Lib.hid (e_tick (l1 := [blkC PB _ TPk, blkC XB _ TSp]) (t := dt) H6.out HOk.out (by omega))
         rw [hbz] at HBU
         rw [hnw] at HNW
         have g1 : min (nw : Int) (bz : Int) = (mn : Int) := by omega
         have g2 : (if (bz : Int) < (nw : Int) then (bz : Int) else (nw : Int)) = (mn : Int) := by split <;> omega
         have g3 : (if (nw : Int) < (bz : Int) then (nw : Int) else (bz : Int)) = (mn : Int) := by split <;> omega
         have g4 : (if bz < nw then (bz : Int) else (nw : Int)) = (mn : Int) := by split <;> omega
         have g5 : (if nw < bz then (nw : Int) else (bz : Int)) = (mn : Int) := by split <;> omega
         have g6 : IntKind.u64.wrap ((bz : Int) - (mn : Int)) = (dt : Int) := by rw [IntKind.wrap_u64]; omega
         have HEQ := Lib.hid (And.intro hnw (And.intro hbz (And.intro hmn hdt)))
         clear hnw hbz hmn hdt hbl hnl y0 y1 y2 x0'
         go_wp2_with fail
         refine HBU.out.mono ?_
         rintro e w7 ⟨rfl, rfl⟩
         go_wp2_with fail
         refine HNW.out.mono ?_
         rintro e w7 ⟨rfl, rfl⟩
         go_wp2_with fail
         refine HBU.out.mono ?_
         rintro e w7 ⟨rfl, rfl⟩
         go_wp2_with fail
         refine HTK.out.mono ?_
         rintro e w7 ⟨rfl, h7⟩
         have hE1 : OkE { E with now := min (E.now + dt) 18446744073709551615 } (c + 1) := OkE.more HOk.out _ (Nat.min_le_right _ _)
         have HNX : Hid (Calls Tryz.prog 18 #[.pointer (some ⟨eb, 0, none⟩)] w7 fun e w' => ∃ (p0 p1 p2 v i' : Nat) (E' : Eg) (s' : Tree.TS) (W' : List Nat), e = .returned (.tuple #[.int .i64 (i' : Nat), .agg #[.int .u32 (p0 : Nat), .int .u32 (p1 : Nat), .int .u64 (p2 : Nat)], .int .i64 (v : Nat)]) ∧ Hid (Tree.pop sh s 0 = ((p0, p1, p2), v, s')) ∧ Hid (v = 0 ∧ i' = p0 ∧ i' < i ∨ v = 18 ∧ i' = 0 ∧ p0 = 0 ∧ p1 = 0 ∧ p2 = 0) ∧ Hid (Ah i sh s' (qs E') W') ∧ Hid (OkE E' (c + 2)) ∧ s'.m ≤ c + 2 ∧ Hid (Made wB w' [blkC PB #[.int .u32 (a : Nat), .int .u32 (j : Nat), .int .u64 (len : Nat)] TPk, blkC XB #[.bool true, .int .i64 fl, .int .u64 (len : Nat)] TSp, egC eb E', treeC L2 sh 4096 s (j * 10000000)])) := Lib.hid ((e_next (l1 := [blkC PB _ TPk, blkC XB _ TSp]) h7 hE1 (by omega) (by
          obtain ⟨q1, q2, q3, q4⟩ := HEQ.out
          have q5 := HOk.out.busy
          dsimp only
          rw [q1, q2]
          omega)).mono (fun e w' ⟨aa, r, E', hn, he, hm⟩ => by
          obtain ⟨p0, p1, p2, v, i', s', W', hr, hp, hcase, hA', hO', hs'⟩ := st_pop HSH.out HFF.out HGT.out (show Ah i sh s (qs { E with now := min (E.now + dt) 18446744073709551615 }) W from HAh.out) hE1 (by omega) hn
          subst hr
          exact ⟨p0, p1, p2, v, i', E', s', W', he, Lib.hid hp, Lib.hid hcase, Lib.hid hA', Lib.hid hO', hs', Lib.hid hm⟩))
         clear hE1 h7 HTK HNW HBU g1 g2 g3 g4 g5 g6 HGT H6 HEQ
         go_wp2_with fail
         refine HNX.out.mono ?_
         rintro e w8 ⟨p0, p1, p2, v, i', E', s', W', rfl, HP8, HC8, HA8, HO8, hs8, HM8⟩
         go_upto_region 26 with fail
         have h9 := m_blk HM8.out #[.int .u32 (p0 : Nat), .int .u32 (p1 : Nat), .int .u64 (p2 : Nat)] TPk
         obtain ⟨QB, hQB⟩ : ∃ QB, w8.heap.size = QB := ⟨_, rfl⟩
         rw [hQB] at h9
         try simp only [hQB]
         have HPO := Lib.hid (m_pop (t := 0) [blkC QB _ TPk, blkC PB _ TPk, blkC XB _ TSp, egC eb E'] [] h9 HE1.out HSH.out (by omega) hkk (by omega) HP8.out)
         clear h9 hQB HM8 HP8 HNX
         generalize w8.alloc (.cells #[.int .u32 (p0 : Nat), .int .u32 (p1 : Nat), .int .u64 (p2 : Nat)] TPk) = w9 at *
         go_wp2_with fail
         refine HPO.out.mono ?_
         rintro e w10 ⟨rfl, h10⟩
         have h11 := m_blk h10 #[.int .u32 (p0 : Nat), .int .u32 (p1 : Nat), .int .u64 (p2 : Nat)] TPk
         go_upto_region 27 with fail
         obtain ⟨RB, hRB⟩ : ∃ RB, w10.heap.size = RB := ⟨_, rfl⟩
         rw [hRB] at h11
         try simp only [hRB]
         have H11 := Lib.hid h11
         obtain ⟨t0, t1, t2, -⟩ := cells3 (Shm.made_blk (l1 := []) h11)
         obtain ⟨q0, q1, q2, -⟩ := cells3 (Shm.made_blk (l1 := [blkC RB _ TPk]) h11)
         clear h10 h11 hRB HPO
         generalize w10.alloc (.cells #[.int .u32 (p0 : Nat), .int .u32 (p1 : Nat), .int .u64 (p2 : Nat)] TPk) = w11 at *
         rcases HC8.out with ⟨rfl, rfl, hlt8⟩ | ⟨rfl, rfl, rfl, rfl, rfl⟩
         · have g1 : IntKind.i64.wrap (i' : Int) = (i' : Int) := by rw [IntKind.wrap_i64]; omega
           go_wp2_with fail
           go_roundg (nl - j)
           case rel => exact ⟨j + 1, E', s', W', c + 2, by omega, by omega, by first | rfl | go_num, by omega, hs8, HA8, HO8, Lib.hid (by rw [hkk2]; exact H11.out.drop.drop.drop.drop)⟩
           case measure => have := HGK.out; omega
         · go_wp2_with fail
           go_roundg (nl - j)
           case rel => exact ⟨j + 1, E', s', W', c + 2, by omega, by omega, by first | rfl | go_num, by omega, hs8, HA8, HO8, Lib.hid (by rw [hkk2]; exact H11.out.drop.drop.drop.drop)⟩
           case measure => have := HGK.out; omega
     · obtain rfl : j = nl := by omega
       have dI : decide ((j : Int) < j) = false := by simp
       have HLV := fun u => Lib.hid (Shm.lives_any u)
       have HU3 := Lib.hid (HU.out.trans HM.out.upd (fun _ _ h => h))
       clear HM
       go_wp2_with fail
       refine (HLV _).out.mono ?_
       rintro e w9 ⟨rfl, u9⟩
       have HU9 := Lib.hid (HU3.out.trans u9 (fun _ _ h => h))
       clear u9
       go_wp2_with fail
       go_ret
       exact ⟨rfl, HU9.out⟩
end Go.Proofs.YtpgpjjkeginbbaaGreatDoor.Ah
namespace Go.Proofs.YtpgpjjkeginbbaaGreatDoor.Ah
open Go.RowKit Go.Proofs BigFrame
open Tree (Env)
open Br (Stp stL stps_of)
set_option maxHeartbeats 4000000
set_option maxRecDepth 100000
theorem ahead_big (cl pc : Nat) (ad2 : Option Addr) (nl cp2 : Nat) (w : World) (h : 150 < nl) :
 Calls Tryz.prog 4 #[.int .u8 cl, .int .u16 pc, .slice ad2 nl cp2] w fun e w' => e = .returned (.bool true) ∧ Upd Nowhere w w' := by
 have HLV := fun u => Lib.hid (Shm.lives_any u)
 have d5 : decide ((nl : Int) > 150) = true := decide_eq_true (by omega)
 have d6 : decide (150 < nl) = true := decide_eq_true h
 clear h
 go_enter Tryz.func4, Tryz.ntmps4
 go_wp2_with fail
 refine (HLV _).out.mono ?_
 rintro e w9 ⟨rfl, u9⟩
 go_wp2_with fail
 go_ret
 exact ⟨rfl, u9⟩
theorem ahead_law (cl pc : Nat) (hcl : cl ≤ 255) (hpc : pc ≤ 65535) (v1 : Value) (l : List Stp) (w : World) (hv1 : RowsAt w v1 l.length (l.flatMap stL)) (hl : ∀ x ∈ l, x.len ≤ 18446744073709551615) (E : Env w) :
 Calls Tryz.prog 4 #[.int .u8 cl, .int .u16 pc, v1] w fun e w' => e = .returned (.bool true) ∧ Upd Nowhere w w' := by
 obtain ⟨ad2, c2, rfl, hst⟩ := stps_of hv1
 by_cases h : 150 < l.length
 · exact ahead_big cl pc ad2 l.length c2 w h
 · exact ahead_walk hcl hpc E rfl (by omega) hst hl
end Go.Proofs.YtpgpjjkeginbbaaGreatDoor.Ah

