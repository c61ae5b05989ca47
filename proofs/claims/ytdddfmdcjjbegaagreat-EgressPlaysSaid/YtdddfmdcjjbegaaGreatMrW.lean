/- R43W, one behind the other. -/
import Derived.Test.YtdddfmdcjjbegaaGreatMrN3
import Derived.Test.YtdddfmdcjjbegaaGreatMeN3
namespace Go.Proofs.YtdddfmdcjjbegaaGreat.R43
open Go.RowKit Go.Proofs BigFrame
open RingW (It)
open First (Cf VC TCl)
open Egs (Cs Eg OkE OkS OkF cri crs crh TRk TRc TP ClsAt PlnAt s0 mk_off mk_set)
open Aifo (RefIn)
set_option maxHeartbeats 40000000
set_option maxRecDepth 1000000
set_option linter.unusedSimpArgs false
/-- A reference at first. -/
abbrev Rn (sv : Value) (q : List (Nat × Cf × Cs × List (Nat × Int))) : Rf := ⟨sv, .slice none 0 0, .slice none 0 0, q, [], [], 0, 0⟩
abbrev RZ (cv pv : Value) (pace : Nat) (sv : Value) : Array Value := #[cv, pv, .int .u64 (pace : Nat), sv, .slice none 0 0, .slice none 0 0, .int .u64 0, .int .u64 0]
/-- What one that is being made has. -/
abbrev NL (m pace : Nat) (cv pv sv : Value) (q : List (Nat × Cf × Cs × List (Nat × Int))) : List Comp := blkC m (RZ cv pv pace sv) TEg :: rowW TPs 1 sv q.length (ptr2 q) :: rowW TP 3 (.slice none 0 0) 0 [] :: rowW TU 1 (.slice none 0 0) 0 [] :: sts q
abbrev SZ (gb : Nat) (a b c : Int) : Array Value := #[.slice none 0 0, .int .u64 0, .int .u64 0, .int .u64 0, .int .u64 0, .int .u64 0, .int .u64 0, .bool false, .pointer (some ⟨gb, 0, none⟩), .int .i64 a, .int .i64 b, .int .i64 c, .int .i64 0, .int .i64 0, .int .i64 0, .int .i64 0]
abbrev GZ (x : Cf) : Array Value := #[.int .i64 x.room, .int .i64 x.window, .int .u64 (x.num : Nat), .int .u64 (x.den : Nat), .int .i64 0, .slice none 0 0]
section
variable {w w1 w' wC : World} {m b gb pace n : Nat} {cv pv sv sv' : Value} {q : List (Nat × Cf × Cs × List (Nat × Int))} {cf : Cf} {L : List Comp} {X : Comp}
theorem rn_start (w : World) (cv pv : Value) (pace : Nat) (hu : Upd Nowhere w w1) (hB : Blk w1 m (RZ cv pv pace (.slice none 0 0)) TEg) (hm : w.heap.size ≤ m) : Made w w1 (NL m pace cv pv (.slice none 0 0) []) :=
 (m_nil (m_nil (m_nil (Made.start w) TU 1) TP 3) TPs 1).more (C := blkC m (RZ cv pv pace (.slice none 0 0)) TEg) (o := fun k => k = m) ⟨hB, fun _ => Iff.rfl⟩ (fun k hk => by rw [hk]; exact hm) hu
theorem rn_end {own : Nat → Prop} (h : Sep w (NL m pace cv pv sv q) own) : RfP w own m cv pv pace (Rn sv q) := h
theorem rn_push (h : Made wC w (stC b cf (s0 cf) [] :: NL m pace cv pv sv q)) (hn : q.length = n) (hx : Upd Nowhere w w1) (ho : w'.ownsRow 0 TPs 1 sv' (n + 1) (ptr2 q ++ [.pointer (some ⟨b, 0, none⟩)])) (hu : Upd (fun q => sv.ownBlock = some q) w1 w') (hno : OwnOrNew w1 sv sv') :
 Made wC (w'.setCell ⟨m, 3, none⟩ sv') (NL m pace cv pv sv' (q ++ [(b, cf, s0 cf, [])])) := by
 have h1 := m_row [stC b cf (s0 cf) [], blkC m _ TEg] (rowW TP 3 (.slice none 0 0) 0 [] :: rowW TU 1 (.slice none 0 0) 0 [] :: sts q) h hx ho hu hno
 have h2 := mk_set (l1 := [stC b cf (s0 cf) []]) (cs := RZ cv pv pace sv) h1 3 sv'
 have h3 := h2.perm (List.perm_append_singleton (stC b cf (s0 cf) []) _).symm
 have e1 : sts (q ++ [(b, cf, s0 cf, [])]) = sts q ++ [stC b cf (s0 cf) []] := by unfold sts; rw [List.map_append]; rfl
 have e2 : ptr2 (q ++ [(b, cf, s0 cf, [])]) = ptr2 q ++ [.pointer (some ⟨b, 0, none⟩)] := by unfold ptr2; rw [List.map_append]; rfl
 unfold NL
 rw [e1, e2, List.length_append, hn]
 exact h3
theorem rn_box {w2 : World} (h : Made wC w (X :: L)) (hf : OkF cf) (hG : Blk w1 gb (GZ cf) Aifo.TM) (hg : w.heap.size ≤ gb) (hu : Upd Nowhere w w1) (hB : Blk w2 b (SZ gb 0 0 0) TSt) (hb : w1.heap.size ≤ b) (hu2 : Upd Nowhere w1 w2) :
 Made wC w2 (X :: blkC b (SZ gb 0 0 0) TSt :: gateR cf gb 0 [] :: L) := by
 have h1 := h.more (C := gateR cf gb 0 []) (o := fun k => cf.policy = 3 ∧ k = gb) (by
  show GateR _ _ _ _ _ _
  unfold GateR
  by_cases h3 : cf.policy = 3
  · rw [if_pos h3]
    obtain ⟨g1, g2, g3, g4⟩ := hf.ga h3
    have a1 := hf.r1
    have a2 := hf.r2
    refine ⟨.slice none 0 0, ⟨?_, .inl ⟨rfl, rfl⟩, fun k hk => by simp [Value.ownBlock] at hk, by omega, Nat.zero_le _, by omega, by omega, Nat.zero_le _, g3, g4⟩, fun k => ⟨fun hk => .inl hk.2, fun hk => hk.elim (fun e => ⟨h3, e⟩) (fun e => by simp [Value.ownBlock] at e)⟩⟩
    rw [show ((cf.room.toNat : Nat) : Int) = cf.room by omega, show ((cf.window.toNat : Nat) : Int) = cf.window by omega]
    exact hG
  · rw [if_neg h3]
    exact fun k hk => h3 hk.1) (fun k hk => by rw [hk.2]; exact hg) hu
 have h2 := h1.more (C := blkC b (SZ gb 0 0 0) TSt) (o := fun k => k = b) ⟨hB, fun _ => Iff.rfl⟩ (fun k hk => by rw [hk]; exact hb) hu2
 exact h2.perm (((List.Perm.swap X _ _).cons _).trans (List.Perm.swap X _ _))
theorem rn_cred {C : Comp} (h : Made wC w (X :: blkC b (SZ gb 0 0 0) TSt :: C :: L)) (a1 a2 a3 : Int) :
 Made wC ((((w.setCell ⟨b, 9, none⟩ (.int .i64 a1)).setCell ⟨b, 10, none⟩ (.int .i64 a2)).setCell ⟨b, 11, none⟩ (.int .i64 a3)).setCell ⟨b, 12, none⟩ (.int .i64 0)) (X :: blkC b (SZ gb a1 a2 a3) TSt :: C :: L) := by
 have h1 := mk_set (l1 := [X]) h 9 (.int .i64 a1)
 have h2 := mk_set (l1 := [X]) h1 10 (.int .i64 a2)
 have h3 := mk_set (l1 := [X]) h2 11 (.int .i64 a3)
 exact mk_set (l1 := [X]) h3 12 (.int .i64 0)
theorem rn_join (h : Made wC w (X :: blkC b (SZ gb (cri cf) (crs cf) (crh cf)) TSt :: gateR cf gb 0 [] :: L)) : Made wC w (stC b cf (s0 cf) [] :: L) := by
 obtain ⟨own, ⟨oA, oA', hA, ⟨oC, oL, hC, hL, dC, eC⟩, dA, eA⟩, h2, h3⟩ := h.drop
 refine ⟨own, ⟨fun q => oA q ∨ oC q, oL, ⟨.slice none 0 0, gb, oA, oC, hA, ⟨fun _ => False, oC, ⟨World.ownsRow_nil _ _ _ _, fun k => ⟨fun h => h.elim, fun h => by simp [Value.ownBlock] at h⟩⟩, Sep.one hC, fun _ h => h.elim, fun _ => ⟨.inr, fun h => h.elim False.elim id⟩⟩, fun q hq h => dA q hq ((eC q).2 (.inl h)), fun _ => Iff.rfl⟩, hL, fun q hq h => ?_, fun q => ?_⟩, h2, h3⟩
 · rcases hq with h1 | h1
   · exact dA q h1 ((eC q).2 (.inr h))
   · exact dC q h1 h
 · rw [eA q, eC q]
   simp only [or_assoc]
end
theorem infoPs : (Tryz.prog.info? TPs).map (fun i => (i.zero, i.size, i.bytes)) = some (some (.pointer none), 1, 8) := by kernel_rfl
theorem rnew_ok {w : World} {cs : List Cf} {ad ap : Option Addr} {n cc mm cp pace : Nat} (hC : ClsAt w ad cs) (hn : cs.length = n) (hn8 : n ≤ 8) (hF : ∀ x ∈ cs, OkF x) :
 Calls Tryz.prog 28 #[.agg #[.slice ad n cc, .slice ap mm cp, .int .u64 pace]] w fun x w' =>
  ∃ m R, x = .returned (.pointer (some ⟨m, 0, none⟩)) ∧ Made w w' [rfC m (.slice ad n cc) (.slice ap mm cp) pace R] ∧ R.P = [] ∧ R.A = [] ∧ R.now = 0 ∧ R.busy = 0 ∧ R.q.map (fun x => x.2) = cs.map (fun c => (c, s0 c, [])) := by
 obtain ⟨j0, gj, jz0, jz1, jz2⟩ := info_parts infoPs
 have hU : Upd Nowhere w (w.alloc (.cells #[.slice ad n cc, .slice ap mm cp, .int .u64 pace] TRc)) := (Upd.refl _ _).alloc _
 have hB : Blk (w.alloc (.cells #[.slice ad n cc, .slice ap mm cp, .int .u64 pace] TRc)) w.heap.size #[.slice ad n cc, .slice ap mm cp, .int .u64 pace] TRc := Blk.new _ _ _
 have HU := Lib.hid hU
 have HB := Lib.hid hB
 have HC := Lib.hid hC
 have HN := Lib.hid hn
 have HOF := Lib.hid hF
 clear hU hB hC hn hF
 go_enter Tryz.func28, Tryz.ntmps28
 go_upto_region 1 with fail
 obtain ⟨b0, b1, b2, -⟩ := cells3 HB.out
 have hBl := HB.out.lt
 generalize w.alloc (.cells #[.slice ad n cc, .slice ap mm cp, .int .u64 pace] TRc) = w1 at *
 generalize w.heap.size = BX at *
 go_upto_region 2 with fail
 have hM0 := rn_start w1 (.slice ad n cc) (.slice ap mm cp) pace ((Upd.refl _ _).alloc (.cells (RZ (.slice ad n cc) (.slice ap mm cp) pace (.slice none 0 0)) TEg)) (Blk.new _ _ _) (Nat.le_refl _)
 have HM0 := Lib.hid hM0
 have HGC := Lib.hid (fun (u : World) (hu : Upd Nowhere w1 u) => (show u.cell? ⟨BX, 0, none⟩ = some (.slice ad n cc) from cell_old hu b0))
 clear hM0 b0 b1 b2 HB hBl
 generalize w1.alloc (.cells (RZ (.slice ad n cc) (.slice ap mm cp) pace (.slice none 0 0)) TEg) = wE at *
 generalize w1.heap.size = m at *
 go_upto_region 3 with fail
 go_loopg [4, 5, 6] (n + 1) (fun gk v4 _ _ wr => ∃ (i : Nat) (sv : Value) (q : List (Nat × Cf × Cs × List (Nat × Int))), n - i < gk ∧ i ≤ n ∧ v4 = .int .i64 i ∧ Hid (Made w1 wr (NL m pace (.slice ad n cc) (.slice ap mm cp) sv q)) ∧ Hid (q.map (fun x => x.2) = (cs.take i).map (fun c => (c, s0 c, []))) ∧ Hid (q.length = i))
 case atStart => exact ⟨0, .slice none 0 0, [], by omega, Nat.zero_le _, rfl, HM0, Lib.hid rfl, Lib.hid rfl⟩
 case round =>
  obtain ⟨i, sv, q, hgk, hin, rfl, HMk, HQ, HQl⟩ := hrel
  obtain ⟨wB, rfl⟩ : ∃ x, x = wr := ⟨_, rfl⟩
  have HGK := Lib.hid hgk
  have k0 := HGC.out _ HMk.out.upd
  clear hgk HM0
  rcases Nat.lt_or_ge i n with hlt | hge
  · obtain ⟨x, hx⟩ : ∃ x, cs[i]? = some x := ⟨cs[i]'(by have := HN.out; omega), by simp⟩
    have HX := Lib.hid hx
    obtain ⟨g, o, rfl, m0, m1, m2, m3, m4, m5, m6, m7, m8, m9, m10, m11, m12, m13, m14, m15⟩ := (HC.out.old (HU.out.trans HMk.out.upd (fun _ _ h => h))).cells hx
    have hI : (i : Int) < n := by omega
    clear hx
    go_upto_region 6 with fail
    clear m0 m1 m2 m3 m4 m5 m6 m7 m8 m9 m10 m11 m12 m13 m14 m15 k0
    have hX : Blk (wB.alloc (.cells (VC x) TRk)) wB.heap.size (VC x) TRk := Blk.new _ _ _
    have hMX : Made w1 (wB.alloc (.cells (VC x) TRk)) (blkC wB.heap.size (VC x) TRk :: NL m pace (.slice (some ⟨g, o, none⟩) n cc) (.slice ap mm cp) sv q) :=
     HMk.out.more (C := blkC wB.heap.size (VC x) TRk) (o := fun q => q = wB.heap.size) ⟨hX, fun _ => Iff.rfl⟩ (fun q hq => by rw [hq]; exact Nat.le_refl _) ((Upd.refl _ _).alloc _)
    have HMX := Lib.hid hMX
    obtain ⟨m0, m1, m2, m3, m4, m5, m6, m7, m8, m9, m10, m11, m12, m13, m14, m15⟩ := vc_cells hX _ (Upd.refl _ _)
    clear hX hMX HMk
    generalize wB.heap.size = X at *
    generalize wB.alloc (.cells (VC x) TRk) = wX at *
    have hOx := HOF.out x (List.mem_of_getElem? HX.out)
    have HOx := Lib.hid hOx
    clear hOx
    go_cut [6] (fun v6 wc => ∃ b gb, v6 = .pointer (some ⟨b, 0, none⟩) ∧ Made w1 wc (blkC X (VC x) TRk :: blkC b (SZ gb 0 0 0) TSt :: gateR x gb 0 [] :: NL m pace (.slice (some ⟨g, o, none⟩) n cc) (.slice ap mm cp) sv q))
    case first =>
     go_wp2_with fail
     go_meet
     have hsz : (wX.alloc (.cells (GZ x) Aifo.TM)).heap.size = wX.heap.size + 1 := by simp
     exact ⟨_, wX.heap.size, rfl, rn_box (w2 := (wX.alloc (.cells (GZ x) Aifo.TM)).alloc (.cells (SZ wX.heap.size 0 0 0) TSt)) HMX.out HOx.out (Blk.new _ _ _) (Nat.le_refl _) ((Upd.refl _ _).alloc _) (by rw [← hsz]; exact Blk.new _ _ _) (Nat.le_of_eq hsz) ((Upd.refl _ _).alloc _)⟩
    case rest =>
     obtain ⟨b, gb, rfl, hMK⟩ := hcut
     obtain ⟨w2, rfl⟩ : ∃ x, x = wc := ⟨_, rfl⟩
     have HMK := Lib.hid hMK
     clear hMK HMX m0 m1 m2 m3 m4 m5 m6 m7 m8 m9 m10 m11 m12 m13 m14 m15
     obtain ⟨m0, m1, m2, m3, m4, m5, m6, m7, m8, m9, m10, m11, m12, m13, m14, m15⟩ := vc_cells (mk_off (l1 := []) HMK.out).1 _ (Upd.refl _ _)
     obtain ⟨bc, hbc⟩ : ∃ b, x.credit = b := ⟨_, rfl⟩
     rw [hbc] at m2
     have HBC := Lib.hid hbc
     clear hbc
     go_upto_if 35 with fail
     go_cut [] (fun wc => Made w1 wc (blkC X (VC x) TRk :: blkC b (SZ gb (cri x) (crs x) (crh x)) TSt :: gateR x gb 0 [] :: NL m pace (.slice (some ⟨g, o, none⟩) n cc) (.slice ap mm cp) sv q))
     case first =>
      cases bc with
      | false =>
        have hcd := HBC.out
        have e1 : cri x = 0 := by unfold cri; rw [hcd]; rfl
        have e2 : crs x = 0 := by unfold crs; rw [hcd]; rfl
        have e3 : crh x = 0 := by unfold crh; rw [hcd]; rfl
        have HE := Lib.hid (And.intro e1 (And.intro e2 e3))
        clear e1 e2 e3 hcd
        go_wp2_with fail
        go_meet
        rw [HE.out.1, HE.out.2.1, HE.out.2.2]
        exact HMK.out
      | true =>
        have hcd := HBC.out
        have e1 : cri x = x.idle := by unfold cri; rw [hcd]; rfl
        have e2 : crs x = x.send := by unfold crs; rw [hcd]; rfl
        have e3 : crh x = x.high := by unfold crh; rw [hcd]; rfl
        have HE := Lib.hid (And.intro e1 (And.intro e2 e3))
        clear e1 e2 e3 hcd
        have hBk := (mk_off (l1 := [blkC X (VC x) TRk]) HMK.out).1
        have z9 := hBk.free 9
        have z10 := hBk.free 10
        have z11 := hBk.free 11
        have z12 := hBk.free 12
        have c9 : w2.cell? ⟨b, 9, none⟩ = some (.int .i64 0) := hBk.cellAt rfl
        have c10 : w2.cell? ⟨b, 10, none⟩ = some (.int .i64 0) := hBk.cellAt rfl
        have c11 : w2.cell? ⟨b, 11, none⟩ = some (.int .i64 0) := hBk.cellAt rfl
        have c12 : w2.cell? ⟨b, 12, none⟩ = some (.int .i64 0) := hBk.cellAt rfl
        clear hBk
        go_wp2_with fail
        go_meet
        rw [HE.out.1, HE.out.2.1, HE.out.2.2]
        exact rn_cred HMK.out _ _ _
     case rest =>
      have HMJ := Lib.hid (rn_join hcut)
      obtain ⟨w5, rfl⟩ : ∃ y, y = wc := ⟨_, rfl⟩
      clear hcut HMK m0 m1 m2 m3 m4 m5 m6 m7 m8 m9 m10 m11 m12 m13 m14 m15
      have hown := m_own HMJ.out (mem2 : rowW TPs 1 sv q.length (ptr2 q) ∈ _)
      obtain ⟨a9, c9, hvc⟩ := row_form hown
      rw [HQl.out] at hown hvc
      subst hvc
      have hBm := (mk_off (l1 := [stC b x (s0 x) []]) HMJ.out).1
      have x3 : w5.cell? ⟨m, 3, none⟩ = some (.slice a9 i c9) := hBm.cellAt rfl
      have HO := Lib.hid hown
      clear hown hBm
      go_wp2_with (at_builtin; go_loud (refine wpList_push rfl _ _ 129 rfl 0 TPs j0 (.pointer none) 1 8 Tryz.underlying129 gj jz0 jz1 jz2 rfl (by decide) (by decide) (.slice a9 i c9) i (ptr2 q) rfl (ownsRow_upd HO.out ((Upd.refl Nowhere w5).alloc _) (fun _ _ h => h)) w5.heap.size 1 [.pointer (some ⟨b, 0, none⟩)] rfl rfl (new_cells w5 #[.pointer (some ⟨b, 0, none⟩)] _) (by simp [Value.oneCell']) (by omega) (Nat.zero_le _) ?_; intro v9 w9 ho9 hu9 hn9; have HP9 := Lib.hid (rn_push HMJ.out HQl.out ((Upd.refl _ _).alloc _) ho9 hu9 hn9); have hB9 := (mk_off (l1 := [stC b x (s0 x) []]) (m_row [stC b x (s0 x) [], blkC m _ TEg] _ HMJ.out ((Upd.refl _ _).alloc _) ho9 hu9 hn9)).1; have x3' : w9.cell? ⟨m, 3, none⟩ = some (.slice a9 i c9) := hB9.cellAt rfl; have y3 := hB9.free 3; obtain ⟨a8, c8, rfl⟩ := row_form ho9; clear hB9 ho9 hu9 hn9))
      go_roundg (n - i)
      case rel =>
       have hQ1 : (q ++ [(b, x, s0 x, ([] : List (Nat × Int)))]).map (fun x => x.2) = (cs.take (i + 1)).map (fun c => (c, s0 c, [])) := by
        rw [List.map_append, HQ.out, List.take_add_one, HX.out, List.map_append]; rfl
       have hQ2 : (q ++ [(b, x, s0 x, ([] : List (Nat × Int)))]).length = i + 1 := by rw [List.length_append, HQl.out]; rfl
       exact ⟨i + 1, _, q ++ [(b, x, s0 x, ([] : List (Nat × Int)))], by omega, by omega, rfl, HP9, Lib.hid hQ1, Lib.hid hQ2⟩
      case measure => have := HGK.out; omega
  · obtain rfl : i = n := by omega
    have dI : decide ((i : Int) < i) = false := by simp
    have HQ1 : Hid (q.map (fun x => x.2) = cs.map (fun c => (c, s0 c, []))) := Lib.hid (by rw [HQ.out, List.take_of_length_le (by rw [HN.out]; exact Nat.le_refl _)])
    go_wp2_with fail
    go_ret
    obtain ⟨own, hs, ho, hu⟩ := HMk.out
    exact ⟨m, Rn sv q, rfl, ⟨own, Sep.one (C := rfC m (.slice ad i cc) (.slice ap mm cp) pace (Rn sv q)) (rn_end hs), fun k hk => Nat.le_trans HU.out.size (ho k hk), HU.out.trans hu (fun _ _ h => h)⟩, rfl, rfl, rfl, rfl, HQ1.out⟩
end Go.Proofs.YtdddfmdcjjbegaaGreat.R43

