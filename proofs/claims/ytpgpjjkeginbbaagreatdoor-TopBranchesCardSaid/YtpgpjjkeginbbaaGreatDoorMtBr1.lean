/- Br1, one behind the other. -/
import Derived.Test.YtpgpjjkeginbbaaGreatDoorMtBr
import Derived.Test.YtpgpjjkeginbbaaGreatDoorMtSh11
namespace Go.Proofs.YtpgpjjkeginbbaaGreatDoor.Br
open Go.RowKit Go.Proofs BigFrame
open Rnk (FlsIn KF rowF flsIn_row)
open Gt (VC TCg cgs)
open Shm (made_blk made_set)
set_option maxHeartbeats 4000000
set_option maxRecDepth 1000000
set_option linter.unusedSimpArgs false
/-- Costs in memory. -/
def CostsIn (w : World) (ad : Option Addr) (l : List Nat) : Prop := ∀ (k x : Nat), l[k]? = some x → ∃ g o, ad = some ⟨g, o, none⟩ ∧ w.cell? ⟨g, o + k, none⟩ = some (.int .u64 x)
theorem CostsIn.old {w w' : World} {ad : Option Addr} {l : List Nat} (h : CostsIn w ad l) (hu : Upd Nowhere w w') : CostsIn w' ad l := fun k x hx => by
 obtain ⟨g, o, e, c⟩ := h k x hx
 exact ⟨g, o, e, cell_old hu c⟩
abbrev TFl : TypeId := 99
abbrev ZFl : Value := .agg #[.int .u32 0, .int .u64 0, .int .u64 0, .int .u64 0, .int .u64 0]
abbrev zCg : Array Value := #[.int .i64 0, .int .i64 0, .int .i64 0, .int .i64 0, .int .i64 0, .int .u64 0, .int .i64 0, .int .u64 0, .int .u64 0, .int .u64 0, .slice none 0 0]
theorem infoFl : (Tryz.prog.info? TFl).map (fun i => (i.zero, i.size, i.bytes)) = some (some ZFl, 5, 40) := by kernel_rfl
theorem rowF_succ {ws : List Nat} {k : Nat} (h : k < ws.length) : rowF (wfl ws) (k + 1) = rowF (wfl ws) k ++ [.int .u32 (k : Nat), .int .u64 (ws.getD k 0 : Nat), .int .u64 0, .int .u64 0, .int .u64 18446744073709551615] := by
 unfold rowF
 rw [slotL_succ, List.getD_eq_getElem?_getD (l := wfl ws), wfl_at h]
 rfl
/-- The configuration's cells. -/
abbrev wv (kd : Int) (v : Value) : Array Value := #[.int .i64 1, .int .i64 kd, .int .i64 2, .int .i64 1, .int .i64 4096, .int .u64 1099511627776, .int .i64 16, .int .u64 65535, .int .u64 1, .int .u64 18446744073709551615, v]
theorem wide_any {w : World} {ad : Option Addr} {n cp : Nat} {ws : List Nat} {kd : Int} (hn : ws.length = n) (h1 : 1 ≤ n) (hn12 : n ≤ 12) (hc : CostsIn w ad ws) :
 Calls Tryz.prog 7 #[.slice ad n cp, .int .i64 kd] w fun e w' => ∃ fg fcp, e = .returned (.agg (VC (wide ws kd) (.slice (some ⟨fg, 0, none⟩) n fcp))) ∧ FlsIn w' (some ⟨fg, 0, none⟩) (wfl ws) ∧ Upd Nowhere w w' := by
 show Calls Tryz.prog 7 #[.slice ad n cp, .int .i64 kd] w fun e w' => ∃ fg fcp, e = .returned (.agg (wv kd (.slice (some ⟨fg, 0, none⟩) n fcp))) ∧ FlsIn w' (some ⟨fg, 0, none⟩) (wfl ws) ∧ Upd Nowhere w w'
 obtain ⟨i0, hi, hz0, hz1, hz2⟩ := info_parts infoFl
 have HC := Lib.hid hc
 have HN := Lib.hid hn
 have hB2 := Blk.new2 w (.cells zCg TCg) (wv kd (.slice none 0 0)) TCg
 have hM0 : Made w ((w.alloc (.cells zCg TCg)).alloc (.cells (wv kd (.slice none 0 0)) TCg)) [blkC (w.heap.size + 1) (wv kd (.slice none 0 0)) TCg, blkC w.heap.size zCg TCg] :=
  ((Made.start w).more (C := blkC w.heap.size zCg TCg) (o := fun q => q = w.heap.size) ⟨Blk.new _ _ _, fun _ => Iff.rfl⟩ (fun q hq => by rw [hq]; exact Nat.le_refl _) ((Upd.refl _ _).alloc _)).more (C := blkC (w.heap.size + 1) (wv kd (.slice none 0 0)) TCg) (o := fun q => q = w.heap.size + 1) ⟨hB2, fun _ => Iff.rfl⟩ (fun q hq => by rw [hq, World.size_alloc]; exact Nat.le_refl _) ((Upd.refl _ _).alloc _)
 have HM0 := Lib.hid (m_nil hM0 TFl 5)
 obtain ⟨rb, hrb⟩ : ∃ rb, w.heap.size = rb := ⟨_, rfl⟩
 obtain ⟨pb, hpb⟩ : ∃ pb, rb + 1 = pb := ⟨_, rfl⟩
 have hne : rb ≠ pb := by omega
 have HRB : Hid (w.heap.size ≤ rb) := Lib.hid (by omega)
 rw [hrb, hpb] at HM0
 have HPB := Lib.hid hpb
 have HRE := Lib.hid hrb
 clear hc hn hB2 hM0 hpb hrb
 go_enter Tryz.func7, Tryz.ntmps7
 go_upto_region 2 with fail
 simp only [HRE.out, HPB.out]
 generalize (w.alloc (.cells zCg TCg)).alloc (.cells (wv kd (.slice none 0 0)) TCg) = wA at *
 go_wp2_with fail
 go_loopg [6, 7, 12] (n + 1) (fun gk _ _ v12 wr => ∃ k v, n - k < gk ∧ k ≤ n ∧ v12 = .int .i64 k ∧ Hid (Made w wr [rowW TFl 5 v k (rowF (wfl ws) k), blkC pb (wv kd v) TCg, blkC rb zCg TCg]))
 case atStart => exact ⟨0, _, by omega, Nat.zero_le _, rfl, HM0⟩
 case round =>
  obtain ⟨k, v, hgk, hin, rfl, HM⟩ := hrel
  obtain ⟨wB, rfl⟩ : ∃ x, x = wr := ⟨_, rfl⟩
  have HGK := Lib.hid hgk
  clear hgk HM0
  have hbP := made_blk (l1 := [rowW TFl 5 v k (rowF (wfl ws) k)]) HM.out
  have hbR := made_blk (l1 := [rowW TFl 5 v k (rowF (wfl ws) k), blkC pb (wv kd v) TCg]) HM.out
  rcases Nat.lt_or_ge k n with hlt | hge
  · have hkl : k < ws.length := by rw [HN.out]; exact hlt
    obtain ⟨ga, oa, rfl, r0⟩ := (HC.out.old HM.out.upd) k (ws.getD k 0) (by rw [List.getD_eq_getElem?_getD, List.getElem?_eq_getElem hkl]; rfl)
    obtain ⟨X, hX⟩ : ∃ X, ws.getD k 0 = X := ⟨_, rfl⟩
    rw [hX] at r0
    have hI : (k : Int) < n := by omega
    have hk12 : k ≤ 4294967295 := by omega
    have c10 : wB.cell? ⟨pb, 10, none⟩ = some v := hbP.cellAt rfl
    have z10 := hbP.free 10
    have HX := Lib.hid hX
    have HKL := Lib.hid hkl
    clear hbP hbR hX hkl
    go_wp2_with (at_builtin; go_loud (refine wpList_push rfl _ _ 33 rfl 0 TFl i0 ZFl 5 40 Tryz.underlying33 hi hz0 hz1 hz2 rfl (by decide) (by decide) v k (rowF (wfl ws) k) rfl (m_own (HM.out.old ((Upd.refl Nowhere wB).alloc _)) mem0) wB.heap.size 1 [.int .u32 (k : Nat), .int .u64 (X : Nat), .int .u64 0, .int .u64 0, .int .u64 18446744073709551615] rfl rfl (new_cells wB #[.int .u32 (k : Nat), .int .u64 (X : Nat), .int .u64 0, .int .u64 0, .int .u64 18446744073709551615] _) (by simp [Value.oneCell']) (by omega) (Nat.zero_le _) ?_; intro v6 w6 hown6 hu6 hn6; obtain ⟨a6, c6, rfl⟩ := row_form hown6; have HM6 := Lib.hid (m_row [] _ (HM.out.old ((Upd.refl Nowhere wB).alloc (.cells #[.int .u32 (k : Nat), .int .u64 (X : Nat), .int .u64 0, .int .u64 0, .int .u64 18446744073709551615] TFl))) (Upd.refl _ _) hown6 hu6 hn6); have hb6 := made_blk (l1 := [rowW TFl 5 (.slice a6 (k + 1) c6) (k + 1) (rowF (wfl ws) k ++ [.int .u32 (k : Nat), .int .u64 (X : Nat), .int .u64 0, .int .u64 0, .int .u64 18446744073709551615])]) HM6.out; have c10' : w6.cell? ⟨pb, 10, none⟩ = some v := hb6.cellAt rfl; have z10' := hb6.free 10; clear hown6 hu6 hn6 c10 z10 hb6))
    go_wp2_with fail
    have HM7 : Hid (Made w (w6.setCell ⟨pb, 10, none⟩ (.slice a6 (k + 1) c6)) [rowW TFl 5 (.slice a6 (k + 1) c6) (k + 1) (rowF (wfl ws) (k + 1)), blkC pb (wv kd (.slice a6 (k + 1) c6)) TCg, blkC rb zCg TCg]) := Lib.hid (by
     have h9 := made_set (l1 := [rowW TFl 5 (.slice a6 (k + 1) c6) (k + 1) (rowF (wfl ws) k ++ [.int .u32 (k : Nat), .int .u64 (X : Nat), .int .u64 0, .int .u64 0, .int .u64 18446744073709551615])]) HM6.out 10 (.slice a6 (k + 1) c6)
     rw [rowF_succ HKL.out, HX.out]
     exact h9)
    go_roundg (n - k)
    case rel => exact ⟨k + 1, (.slice a6 (k + 1) c6), by omega, by omega, by first | rfl | go_num, HM7⟩
    case measure => have := HGK.out; omega
  · obtain rfl : k = n := by omega
    have dI : decide ((k : Int) < k) = false := by simp
    obtain ⟨fg, fcp, rfl⟩ := m_arr HM.out mem0 h1
    have hown := m_own HM.out mem0
    obtain ⟨w3, hst, hB3, hu3⟩ := store_all (P := Tryz.prog) (T := TCg) (V := wv kd (.slice (some ⟨fg, 0, none⟩) k fcp)) (n := 11) hbR (by kernel_rfl) rfl rfl (by first | kernel_rfl | simp [wv, Value.oneCell'])
    obtain ⟨o, hP, _, hback⟩ := Made.foc (blkC rb zCg TCg) [] [rowW TFl 5 (.slice (some ⟨fg, 0, none⟩) k fcp) k (rowF (wfl ws) k), blkC pb (wv kd (.slice (some ⟨fg, 0, none⟩) k fcp)) TCg] HM.out
    have HM3 := Lib.hid (hback w3 o (blkC rb (wv kd (.slice (some ⟨fg, 0, none⟩) k fcp)) TCg) ⟨hB3, hP.2⟩ ⟨fun q hq => .inl hq, hu3.mono (fun q _ e => (hP.2 q).2 e)⟩)
    have HFI := Lib.hid (flsIn_row (by rw [wfl_len]; exact HN.out) (m_own HM3.out mem0))
    have HU := Lib.hid HM3.out.upd
    have HB3 := Lib.hid hB3
    clear hP hback hB3 hu3 HM3
    clear HM
    go_upto_region 7 with fail
    refine wp_region_lit ?_
    refine wpList_loadV TCg (.tmp 5) ⟨pb, 0, none⟩ (.agg (wv kd (.slice (some ⟨fg, 0, none⟩) k fcp))) (load_all (n := 11) hbP Tryz.underlying35 rfl (by kernel_rfl) rfl) ?_
    (try simp only [Act.put, List.setIfInBounds_toArray, List.set_cons_zero, List.set_cons_succ])
    refine wpList_storeV TCg (.tmp 4) (.tmp 27) ⟨rb, 0, none⟩ (.agg (wv kd (.slice (some ⟨fg, 0, none⟩) k fcp))) hst ?_
    refine wpList_nil ?_
    go_wp2_with fail
    exact bodyPost_ret (v := .agg (wv kd (.slice (some ⟨fg, 0, none⟩) k fcp))) (results_cell (t := TCg) (x := 4) rfl rfl (load_all (n := 11) HB3.out Tryz.underlying35 rfl (by kernel_rfl) rfl)) rfl ⟨fg, fcp, rfl, HFI.out, HU.out⟩
end Go.Proofs.YtpgpjjkeginbbaaGreatDoor.Br

