/- EgConf, one behind the other. -/
import Derived.Test.YtdddfmdcjjbegaaGreatMeN
import Derived.Test.YtdddfmdcjjbegaaGreatMeA
namespace Go.Proofs.YtdddfmdcjjbegaaGreat.Egs
open Go.RowKit Go.Proofs BigFrame
open RingW (It KI zI ZI VI TE)
open First (Cf VC TCl)
set_option maxHeartbeats 40000000
set_option maxRecDepth 1000000
set_option linter.unusedSimpArgs false
abbrev TRc : TypeId := 26
abbrev TRk : TypeId := 58
abbrev zC16 : Array Value := #[.int .i64 0, .int .i64 0, .bool false, .int .i64 0, .int .i64 0, .int .i64 0, .int .u64 0, .int .u64 0, .int .u64 0, .int .i64 0, .int .u64 0, .int .u64 0, .int .u64 0, .int .i64 0, .int .u64 0, .int .u64 0]
theorem infoL : (Tryz.prog.info? TCl).map (fun i => (i.zero, i.size, i.bytes)) = some (some (.agg zC16), 16, 128) := by kernel_rfl
/-- Classes' configurations, as cells. -/
def fVC (l : List Cf) : List Value := l.flatMap fun c => (VC c).toList
theorem vc_len (c : Cf) : (VC c).toList.length = 16 := rfl
theorem fVC_app (l : List Cf) (c : Cf) : fVC (l ++ [c]) = fVC l ++ (VC c).toList := by unfold fVC; rw [List.flatMap_append]; simp
theorem alloc_size (w : World) (o : Obj) : (w.alloc o).heap.size = w.heap.size + 1 := by show (w.heap.push o).size = _; exact Array.size_push ..
theorem m_box {w0 w : World} {l : List Comp} (h : Made w0 w l) (c : Array Value) (T : TypeId) : Made w0 (w.alloc (.cells c T)) (blkC w.heap.size c T :: l) :=
 h.more (C := blkC w.heap.size c T) (o := fun q => q = w.heap.size) ⟨Blk.new _ _ _, fun _ => Iff.rfl⟩ (fun q hq => by rw [hq]; exact Nat.le_refl _) ((Upd.refl _ _).alloc _)
theorem conf_any {w : World} {cs : List Cf} {ad ap : Option Addr} {cc cp m pace : Nat} (hC : ClsAt w ad cs) (hn : cs.length ≤ 12) :
 Calls Tryz.prog 12 #[.agg #[.slice ad cs.length cc, .slice ap m cp, .int .u64 pace]] w fun x w' => ∃ v, x = .returned (.agg #[v, .slice ap m cp, .int .u64 pace]) ∧ w'.ownsRow 0 TCl 16 v cs.length (fVC cs) ∧ Upd Nowhere w w' := by
 obtain ⟨i0, hi, hz0, hz1, hz2⟩ := info_parts infoL
 obtain ⟨n, hn'⟩ : ∃ n, cs.length = n := ⟨_, rfl⟩
 have HN := Lib.hid hn'
 have HC := Lib.hid hC
 rw [hn'] at hn ⊢
 clear hC hn'
 go_enter Tryz.func12, Tryz.ntmps12
 go_upto_region 2 with fail
 have hM0 := m_box (m_box (m_box (rowW_start TCl 16 (Made.start w)) #[.slice ad n cc, .slice ap m cp, .int .u64 pace] TRc) #[.slice none 0 0, .slice none 0 0, .int .u64 0] TCo) #[.slice none 0 0, .slice ap m cp, .int .u64 pace] TCo
 rw [alloc_size, alloc_size] at hM0
 have HM0 := Lib.hid hM0
 clear hM0
 generalize ((w.alloc (.cells #[.slice ad n cc, .slice ap m cp, .int .u64 pace] TRc)).alloc (.cells #[.slice none 0 0, .slice none 0 0, .int .u64 0] TCo)).alloc (.cells #[.slice none 0 0, .slice ap m cp, .int .u64 pace] TCo) = wF at *
 obtain ⟨BO, hBO⟩ : ∃ x, w.heap.size + 1 + 1 = x := ⟨_, rfl⟩
 try simp only [hBO]
 rw [hBO] at HM0
 clear hBO
 obtain ⟨BR, hBR⟩ : ∃ x, w.heap.size + 1 = x := ⟨_, rfl⟩
 try simp only [hBR]
 rw [hBR] at HM0
 clear hBR
 obtain ⟨BX, hBX⟩ : ∃ x, w.heap.size = x := ⟨_, rfl⟩
 try simp only [hBX]
 rw [hBX] at HM0
 clear hBX
 obtain ⟨k0, -⟩ := cells3 (mk_off (l1 := [blkC BO _ TCo, blkC BR _ TCo]) HM0.out).1
 go_upto_region 3 with fail
 clear k0
 go_loopg [5, 14] (n + 1) (fun gk _ v14 wr => ∃ (i : Nat) (v : Value), n - i < gk ∧ i ≤ n ∧ v14 = .int .i64 i ∧ Hid (Made w wr [blkC BO #[v, .slice ap m cp, .int .u64 pace] TCo, blkC BR #[.slice none 0 0, .slice none 0 0, .int .u64 0] TCo, blkC BX #[.slice ad n cc, .slice ap m cp, .int .u64 pace] TRc, rowW TCl 16 v i (fVC (cs.take i))]))
 case atStart => exact ⟨0, _, by omega, Nat.zero_le _, rfl, HM0⟩
 case round =>
  obtain ⟨i, v, hgk, hin, rfl, HMk⟩ := hrel
  obtain ⟨wB, rfl⟩ : ∃ x, x = wr := ⟨_, rfl⟩
  have HGK := Lib.hid hgk
  clear hgk HM0
  rcases Nat.lt_or_ge i n with hlt | hge
  · obtain ⟨x, hx⟩ : ∃ x, cs[i]? = some x := ⟨cs[i]'(by have := HN.out; omega), by simp⟩
    have HX := Lib.hid hx
    obtain ⟨g, o, rfl, m0, m1, m2, m3, m4, m5, m6, m7, m8, m9, m10, m11, m12, m13, m14, m15⟩ := (HC.out.old HMk.out.upd).cells hx
    have hI : (i : Int) < n := by omega
    clear hx
    go_upto_region 5 with fail
    clear m0 m1 m2 m3 m4 m5 m6 m7 m8 m9 m10 m11 m12 m13 m14 m15
    have HMX := Lib.hid (m_box HMk.out (VC x) TRk)
    clear HMk
    generalize wB.heap.size = X at *
    generalize wB.alloc (.cells (VC x) TRk) = wX at *
    have hown := m_own (T := TCl) (W := 16) (v := v) (n := i) (xs := fVC (cs.take i)) HMX.out (by simp)
    obtain ⟨a9, c9, hvc⟩ := row_form hown
    subst hvc
    obtain ⟨m0, m1, m2, m3, m4, m5, m6, m7, m8, m9, m10, m11, m12, m13, m14, m15⟩ : _ := (show _ from by
     have hB := (mk_off (l1 := []) HMX.out).1
     exact (⟨hB.cellAt (i := 0) rfl, hB.cellAt (i := 1) rfl, hB.cellAt (i := 2) rfl, hB.cellAt (i := 3) rfl, hB.cellAt (i := 4) rfl, hB.cellAt (i := 5) rfl, hB.cellAt (i := 6) rfl, hB.cellAt (i := 7) rfl, hB.cellAt (i := 8) rfl, hB.cellAt (i := 9) rfl, hB.cellAt (i := 10) rfl, hB.cellAt (i := 11) rfl, hB.cellAt (i := 12) rfl, hB.cellAt (i := 13) rfl, hB.cellAt (i := 14) rfl, hB.cellAt (i := 15) rfl⟩ : wX.cell? ⟨X, 0, none⟩ = some (.int .i64 x.room) ∧ wX.cell? ⟨X, 1, none⟩ = some (.int .i64 x.policy) ∧ wX.cell? ⟨X, 2, none⟩ = some (.bool x.credit) ∧ wX.cell? ⟨X, 3, none⟩ = some (.int .i64 x.idle) ∧ wX.cell? ⟨X, 4, none⟩ = some (.int .i64 x.send) ∧ wX.cell? ⟨X, 5, none⟩ = some (.int .i64 x.high) ∧ wX.cell? ⟨X, 6, none⟩ = some (.int .u64 (x.el : Nat)) ∧ wX.cell? ⟨X, 7, none⟩ = some (.int .u64 (x.eh : Nat)) ∧ wX.cell? ⟨X, 8, none⟩ = some (.int .u64 (x.em : Nat)) ∧ wX.cell? ⟨X, 9, none⟩ = some (.int .i64 x.es) ∧ wX.cell? ⟨X, 10, none⟩ = some (.int .u64 (x.lt : Nat)) ∧ wX.cell? ⟨X, 11, none⟩ = some (.int .u64 (x.li : Nat)) ∧ wX.cell? ⟨X, 12, none⟩ = some (.int .u64 (x.lm : Nat)) ∧ wX.cell? ⟨X, 13, none⟩ = some (.int .i64 x.window) ∧ wX.cell? ⟨X, 14, none⟩ = some (.int .u64 (x.num : Nat)) ∧ wX.cell? ⟨X, 15, none⟩ = some (.int .u64 (x.den : Nat))))
    obtain ⟨x0, -⟩ := cells3 (mk_off (l1 := [_]) HMX.out).1
    have HO := Lib.hid hown
    clear hown
    go_wp2_with (at_builtin; go_loud (refine wpList_push rfl _ _ 34 rfl 0 TCl i0 (.agg zC16) 16 128 Tryz.underlying34 hi hz0 hz1 hz2 rfl (by decide) (by decide) (.slice a9 i c9) i (fVC (cs.take i)) rfl (ownsRow_upd HO.out ((Upd.refl Nowhere wX).alloc _) (fun _ _ h => h)) wX.heap.size 1 (VC x).toList rfl rfl (new_cells wX (VC x) _) (by simp [Value.oneCell']) (by omega) (Nat.zero_le _) ?_; intro v9 w9 ho9 hu9 hn9; have HR9 := Lib.hid (m_row [_, _, _, _] [] HMX.out ((Upd.refl _ _).alloc _) ho9 hu9 hn9); obtain ⟨x0, _, _, y0, _, _⟩ := cells3 (mk_off (l1 := [_]) HR9.out).1; obtain ⟨a8, c8, rfl⟩ := row_form ho9; clear ho9 hu9 hn9))
    go_roundg (n - i)
    case rel =>
     have e1 : fVC (cs.take (i + 1)) = fVC (cs.take i) ++ (VC x).toList := by rw [List.take_add_one, HX.out]; exact fVC_app _ _
     exact ⟨i + 1, _, by omega, by omega, rfl, Lib.hid (by rw [e1]; exact mk_set (l1 := []) HR9.out.drop 0 _)⟩
    case measure => have := HGK.out; omega
  · obtain rfl : i = n := by omega
    have dI : decide ((i : Int) < i) = false := by simp
    have hr := m_own (T := TCl) (W := 16) (v := v) (n := i) (xs := fVC (cs.take i)) HMk.out (by simp)
    rw [List.take_of_length_le (by rw [HN.out]; exact Nat.le_refl _)] at hr
    obtain ⟨k0, k1, k2, -⟩ := cells3 (mk_off (l1 := []) HMk.out).1
    have hB := (mk_off (l1 := [_]) HMk.out).1
    obtain ⟨r0, r1, r2, z0, z1, z2⟩ := cells3 hB
    obtain ⟨aq, cq, rfl⟩ := row_form hr
    clear hr
    go_wp2_with fail
    have h3 := mk_set (l1 := [_]) (mk_set (l1 := [_]) (mk_set (l1 := [_]) HMk.out 0 (.slice aq i cq)) 1 (.slice ap m cp)) 2 (.int .u64 pace)
    have h4 := m_own (T := TCl) (W := 16) (v := .slice aq i cq) (n := i) (xs := fVC (cs.take i)) h3 (by simp)
    rw [List.take_of_length_le (by rw [HN.out]; exact Nat.le_refl _)] at h4
    exact bodyPost_ret (v := .agg #[.slice aq i cq, .slice ap m cp, .int .u64 pace]) (by simp [results, Tryz.results12, go_sem, r0, r1, r2]) rfl ⟨_, rfl, h4, h3.upd⟩
end Go.Proofs.YtdddfmdcjjbegaaGreat.Egs

