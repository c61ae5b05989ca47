/- Ea6, one behind the other. -/
import Derived.Test.YtpgpjjkeginbbaaGreatDoorMtEa4
namespace Go.Proofs.YtpgpjjkeginbbaaGreatDoor.Ea
open Go.RowKit Go.Proofs BigFrame
open RingW (It KI zI ZI VI TE RA)
open First (TF VF IF)
open Ah (Ek k0 kin kout pk)
set_option maxHeartbeats 40000000
set_option maxRecDepth 1000000
set_option linter.unusedSimpArgs false
theorem newE {w : World} {ad : Option Addr} {n cc pace : Nat} (hC : ClsAt w ad n) (h1 : 1 ≤ n) (h2 : n ≤ 8) (hp1 : 1 ≤ pace) (hp2 : pace ≤ 65536) :
 Calls Tryz.prog 13 #[.agg #[.slice ad n cc, .slice none 0 0, .int .u64 pace]] w fun x w' =>
  ∃ e own vc Q, x = .returned (.tuple #[.pointer (some ⟨e, 0, none⟩), .int .i64 0]) ∧ EgP w' own e ⟨vc, pace, 0, 0, Q⟩ ∧ Q.map (fun x => x.2.2) = List.replicate n k0 ∧ (∀ k, own k → w.heap.size ≤ k) ∧ Upd Nowhere w w' := by
 obtain ⟨j0, gj, jz0, jz1, jz2⟩ := info_parts infoK
 have hU : Upd Nowhere w (w.alloc (.cells #[.slice ad n cc, .slice none 0 0, .int .u64 pace] TCo)) := (Upd.refl _ _).alloc _
 have hB : Blk (w.alloc (.cells #[.slice ad n cc, .slice none 0 0, .int .u64 pace] TCo)) w.heap.size #[.slice ad n cc, .slice none 0 0, .int .u64 pace] TCo := Blk.new _ _ _
 have HK := Lib.hid (checkE (cc := cc) (hC.old hU) h1 h2 hp1 hp2)
 have HU := Lib.hid hU
 have HB := Lib.hid hB
 have HC := Lib.hid hC
 clear hC hU hB hp1 hp2
 go_enter Tryz.func13, Tryz.ntmps13
 go_wp2_with fail
 refine (HK.out).mono ?_
 rintro x w2 ⟨rfl, u2⟩
 have HU2 := Lib.hid (HU.out.trans u2 (fun _ _ h => h))
 have HB2 := Lib.hid (HB.out.kept u2 id)
 have hg : w.heap.size < w2.heap.size := HB2.out.lt
 clear u2 HU HB HK
 obtain ⟨k0', k1, k2, -⟩ := cells3 HB2.out
 generalize w.heap.size = g0 at *
 go_upto_region 5 with fail
 have hE : Blk (w2.alloc (.cells #[.slice none 0 0, .slice none 0 0, .int .u64 pace, .int .u64 0, .int .u64 0] TEg)) w2.heap.size #[.slice none 0 0, .slice none 0 0, .int .u64 pace, .int .u64 0, .int .u64 0] TEg := Blk.new _ _ _
 have hM0 : Made w2 (w2.alloc (.cells #[.slice none 0 0, .slice none 0 0, .int .u64 pace, .int .u64 0, .int .u64 0] TEg)) (MkL w2.heap.size pace (.slice none 0 0) []) :=
  (rowW_start TKp 1 ((Made.start w2).more (C := blkC w2.heap.size #[.slice none 0 0, .slice none 0 0, .int .u64 pace, .int .u64 0, .int .u64 0] TEg) (o := fun q => q = w2.heap.size) ⟨hE, fun _ => Iff.rfl⟩ (fun q hq => by rw [hq]; exact Nat.le_refl _) ((Upd.refl _ _).alloc _))).perm (List.Perm.swap _ _ _)
 have HM0 := Lib.hid hM0
 have HE := Lib.hid hE
 clear hE hM0
 have q0' : (w2.alloc (.cells #[.slice none 0 0, .slice none 0 0, .int .u64 pace, .int .u64 0, .int .u64 0] TEg)).cell? ⟨g0, 0, none⟩ = some (.slice ad n cc) := cell_old ((Upd.refl _ _).alloc _) k0'
 have k1' : (w2.alloc (.cells #[.slice none 0 0, .slice none 0 0, .int .u64 pace, .int .u64 0, .int .u64 0] TEg)).cell? ⟨g0, 1, none⟩ = some (.slice none 0 0) := cell_old ((Upd.refl _ _).alloc _) k1
 have hgE : ¬ w2.heap.size = g0 := by omega
 generalize w2.alloc (.cells #[.slice none 0 0, .slice none 0 0, .int .u64 pace, .int .u64 0, .int .u64 0] TEg) = wE at *
 obtain ⟨x0, x1, x2, x3, x4, y0, y1, y2, y3, y4⟩ := cells5 HE.out
 go_cut [] (fun wc => Made w2 wc (MkL w2.heap.size pace (.slice none 0 0) []))
 case first =>
  go_region
  all_goals
   go_wp2_with fail
   go_meet
   first | exact (mk_set (l1 := []) HM0.out 1 (.slice none 0 0)).old ((Upd.refl _ _).drew) | exact mk_set (l1 := []) (HM0.out.old ((Upd.refl _ _).drew)) 1 (.slice none 0 0)
 case rest =>
  have HM6 := Lib.hid hcut
  have HGC := Lib.hid (fun (u : World) (hu : Upd Nowhere w2 u) => (show u.cell? ⟨g0, 0, none⟩ = some (.slice ad n cc) from cell_old hu k0'))
  clear hcut HM0 x0 x1 x2 x3 x4 y0 y1 y2 y3 y4 k1' q0' k0' k1 k2 HE
  have kq := HGC.out _ HM6.out.upd
  go_upto_region 7 with fail
  clear kq
  go_loopg [7, 8, 31] (n + 1) (fun gk _ _ v31 wr => ∃ (i : Nat) (vc : Value) (Q : List (Nat × Nat × Ek)), n - i < gk ∧ i ≤ n ∧ v31 = .int .i64 i ∧ Hid (Made w2 wr (MkL w2.heap.size pace vc Q)) ∧ Hid (Q.map (fun x => x.2.2) = List.replicate i k0) ∧ Hid (Q.length = i))
  case atStart => exact ⟨0, .slice none 0 0, [], by omega, Nat.zero_le _, rfl, HM6, Lib.hid rfl, Lib.hid rfl⟩
  case round =>
   obtain ⟨i, vc, Q, hgk, hin, rfl, HMk, HQ, HQl⟩ := hrel
   obtain ⟨wB, rfl⟩ : ∃ x, x = wr := ⟨_, rfl⟩
   have HGK := Lib.hid hgk
   clear hgk HM6
   rcases Nat.lt_or_ge i n with hlt | hge
   · obtain ⟨g, o, rfl, m0, m1, m2, m3, m4, m5, m6, m7, m8, m9, m10, m11, m12, m13, m14, m15⟩ := (HC.out.old (HU2.out.trans HMk.out.upd (fun _ _ h => h))).get hlt
     have hI : (i : Int) < n := by omega
     go_upto_region 9 with fail
     clear m0 m1 m2 m3 m4 m5 m6 m7 m8 m9 m10 m11 m12 m13 m14 m15
     have hX : Blk (wB.alloc (.cells VC0 TCl)) wB.heap.size VC0 TCl := Blk.new _ _ _
     have hMX : Made w2 (wB.alloc (.cells VC0 TCl)) (blkC wB.heap.size VC0 TCl :: MkL w2.heap.size pace vc Q) :=
      HMk.out.more (C := blkC wB.heap.size VC0 TCl) (o := fun q => q = wB.heap.size) ⟨hX, fun _ => Iff.rfl⟩ (fun q hq => by rw [hq]; exact Nat.le_refl _) ((Upd.refl _ _).alloc _)
     have HMX := Lib.hid hMX
     have HF := Lib.hid (vc_cells hX)
     clear hX hMX HMk
     generalize wB.heap.size = X at *
     generalize wB.alloc (.cells VC0 TCl) = wX at *
     go_cut [8] (fun v8 wc => ∃ k b, v8 = .pointer (some ⟨k, 0, none⟩) ∧ Made w2 wc (blkC X VC0 TCl :: blkC k (KC 0 0 0 (IF b)) TK :: rgC b [] :: MkL w2.heap.size pace vc Q))
     case first =>
      obtain ⟨m0, m1, m2, m3, m4, m5, m6, m7, m8, m9, m10, m11, m12, m13, m14, m15⟩ := HF.out _ (Upd.refl _ _)
      have HMD := fun u => Lib.hid (made0 u)
      go_region_with (go_at_call 42; refine (HMD _).out.mono ?_; rintro y w3 ⟨b, rfl, hR, ho, u3⟩; have HR := Lib.hid hR; have HO := Lib.hid ho; have HU3 := Lib.hid u3; obtain ⟨p0, p1, p2, p3, p4, p5, p6, p7, p8, p9, p10, p11, p12, p13, p14, p15⟩ := HF.out _ (Upd.trans (by repeat (first | with_reducible exact Upd.refl _ _ | with_reducible refine Upd.drew ?_)) u3 (fun _ _ h => h)); clear hR ho u3)
      all_goals
       go_wp2_with fail
       go_meet
       refine ⟨_, b, rfl, ?_⟩
       exact mk_box HMX.out (by repeat (first | with_reducible exact Upd.refl _ _ | with_reducible refine Upd.drew ?_)) HU3.out HR.out HO.out ((Upd.refl _ _).alloc _) (Blk.new _ _ _) (Nat.le_refl _)
     case rest =>
      obtain ⟨k, b, rfl, hMK⟩ := hcut
      have HMK := Lib.hid hMK
      obtain ⟨w5, rfl⟩ : ∃ y, y = wc := ⟨_, rfl⟩
      clear hMK HF HMX
      obtain ⟨m0, m1, m2, m3, m4, m5, m6, m7, m8, m9, m10, m11, m12, m13, m14, m15⟩ := vc_cells (mk_off (l1 := []) HMK.out).1 _ (Upd.refl _ _)
      have HMJ := Lib.hid (mk_join HMK.out)
      have hown := m_own HMJ.out (mem2 : rowW TKp 1 vc Q.length (ptrs Q) ∈ _)
      obtain ⟨a9, c9, hvc⟩ := row_form hown
      rw [HQl.out] at hown hvc
      subst hvc
      obtain ⟨x0, x1, x2, x3, x4, y0, y1, y2, y3, y4⟩ := cells5 (mk_off (l1 := [clsC k b k0]) HMJ.out).1
      have HO := Lib.hid hown
      clear hown x1 x2 x3 x4 y0 y1 y2 y3 y4 HMK
      go_wp2_with (at_builtin; go_loud (refine wpList_push rfl _ _ 128 rfl 0 TKp j0 (.pointer none) 1 8 Tryz.underlying128 gj jz0 jz1 jz2 rfl (by decide) (by decide) (.slice a9 i c9) i (ptrs Q) rfl (ownsRow_upd HO.out ((Upd.refl Nowhere w5).alloc _) (fun _ _ h => h)) w5.heap.size 1 [.pointer (some ⟨k, 0, none⟩)] rfl rfl (new_cells w5 #[.pointer (some ⟨k, 0, none⟩)] _) (by simp [Value.oneCell']) (by omega) (Nat.zero_le _) ?_; intro v9 w9 ho9 hu9 hn9; have HP9 := Lib.hid (mk_push HMJ.out HQl.out ((Upd.refl _ _).alloc _) ho9 hu9 hn9); obtain ⟨x0, x1, x2, x3, x4, y0, y1, y2, y3, y4⟩ := cells5 (mk_off (l1 := [clsC k b k0]) (m_row [clsC k b k0, blkC w2.heap.size _ TEg] _ HMJ.out ((Upd.refl _ _).alloc _) ho9 hu9 hn9)).1; obtain ⟨a8, c8, rfl⟩ := row_form ho9; clear x1 x2 x3 x4 y1 y2 y3 y4 ho9 hu9 hn9))
      go_roundg (n - i)
      case rel =>
       have hQ1 : (Q ++ [(k, b, k0)]).map (fun x => x.2.2) = List.replicate (i + 1) k0 := by
        rw [List.map_append, HQ.out, List.replicate_succ']; rfl
       have hQ2 : (Q ++ [(k, b, k0)]).length = i + 1 := by rw [List.length_append, HQl.out]; rfl
       exact ⟨i + 1, _, Q ++ [(k, b, k0)], by omega, by omega, rfl, HP9, Lib.hid hQ1, Lib.hid hQ2⟩
      case measure => have := HGK.out; omega
   · obtain rfl : i = n := by omega
     have dI : decide ((i : Int) < i) = false := by simp
     go_wp2_with fail
     go_ret2
     obtain ⟨own, hs, ho, hu⟩ := HMk.out
     exact ⟨w2.heap.size, own, vc, Q, rfl, hs, HQ.out, fun k hk => Nat.le_trans HU2.out.size (ho k hk), HU2.out.trans hu (fun _ _ h => h)⟩
end Go.Proofs.YtpgpjjkeginbbaaGreatDoor.Ea

