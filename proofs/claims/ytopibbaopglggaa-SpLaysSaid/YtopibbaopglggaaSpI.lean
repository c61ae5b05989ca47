/- sppifo's queues of int: empty, New. -/
import Derived.Test.YtopibbaopglggaaSpCore2
import Derived.Test.YtopibbaopglggaaPairI4
import Derived.Deep.CutBlock
namespace Go.Proofs.Ytopibbaopglggaa.SpI
open Go.RowKit Go.Proofs BigFrame
open PairI (TR TE)
abbrev TS : TypeId := 110
abbrev PT : TypeId := 112
abbrev TU : TypeId := 28
set_option maxHeartbeats 1000000
theorem infoP : (Try.prog.info? PT).map (fun i => (i.zero, i.size, i.bytes)) = some (some (.pointer none), 1, 8) := by kernel_rfl
theorem infoU : (Try.prog.info? TU).map (fun i => (i.zero, i.size, i.bytes)) = some (some (.int .u64 0), 1, 8) := by kernel_rfl
theorem empty_any (w : World) (s gb n room : Nat) (h1 : 1 ≤ room) (h2 : room ≤ 4096) (hn : n ≤ 32) (hb : w.cell? ⟨s, 1, none⟩ = some (.slice (some ⟨gb, 0, none⟩) n n)) (hr : w.cell? ⟨s, 2, none⟩ = some (.int .i64 room)) :
    Calls Try.prog 48 #[.pointer (some ⟨s, 0, none⟩)] w fun e w' => ∃ v, e = .returned v ∧ ∃ rb, Rings TR TE PT w w' v rb n room := by
  obtain ⟨i0, hi, hz0, hz1, hz2⟩ := info_parts infoP
  have HN := fun u => Lib.hid (PairI.new_ok u room h1 (by omega))
  go_enter Try.func48, Try.ntmps48
  go_wp2_with fail
  go_loopw [3, 11] (fun v i wr => ∃ (k : Nat) (rb : Nat → Nat), k ≤ n ∧ i = .int .i64 k ∧ Rings TR TE PT w wr v rb k room) (fun _ i _ => n - (intOf i).toNat)
  case atStart => exact ⟨0, fun _ => 0, by omega, rfl, Rings.start _ _ _ _ _ _⟩
  case round =>
    obtain ⟨k, rb, hk, rfl, hR⟩ := hrel
    have HR := Lib.hid hR
    clear hR
    have e2 := (HR.out.upd.cell 2 (cell_lt hr) id).trans hr
    by_cases hlt : k < n
    · have hI : (k : Int) < n := by omega
      go_wp2_with fail
      refine (HN _).out.mono ?_
      rintro e w1 ⟨rfl, hring, hu1⟩
      have hsz := hu1.size
      have hlow := HR.out.upd.size
      have hown := ownsRow_upd HR.out.row hu1 (fun _ _ h => h)
      go_wp2_with (at_builtin; refine wpList_push rfl _ _ 108 rfl w.heap.size PT i0 (.pointer none) 1 8 Try.underlying108 hi hz0 hz1 hz2 rfl (by decide) (by decide) _ _ _ rfl (hown.alloc _) w1.heap.size 1 [.pointer (some ⟨wr.heap.size, 0, none⟩)] rfl rfl (new_cells _ #[_] _) (by simp [Value.oneCell']) (by omega) (by simp; omega) ?_; intro v2 w2 hown2 hu2 hn2)
      go_roundw
      case rel => exact ⟨k + 1, _, by omega, by go_num, HR.out.push (hu1.alloc _) (hring.kept ((Upd.refl _ _).alloc _) (fun _ _ h => h)) hown2 hu2 hn2⟩
      case measure => simp [intOf]; omega
    · obtain rfl : k = n := by omega
      go_wp2_with fail
      go_ret
      exact ⟨_, rfl, rb, HR.out⟩
/-- What New leaves. -/
def Fresh (w w' : World) (s room n : Nat) : Prop := ∃ gq gb cq rb, SpIn TS TR TE PT TU w' s gq gb cq n room 0 rb (fun _ => none) (fun _ => 0) (fun _ => []) ∧ (∀ k, SpOf s gq gb n rb (fun _ => none) k → w.heap.size ≤ k) ∧ Upd Nowhere w w'
theorem new_ok (w : World) (room n : Nat) (h1 : 1 ≤ room) (h2 : room ≤ 4096) (hn1 : 1 ≤ n) (hn2 : n ≤ 32) :
    Calls Try.prog 14 #[.int .i64 room, .int .i64 n] w fun e w' => ∃ s, e = .returned (.tuple #[.pointer (some ⟨s, 0, none⟩), .int .i64 0]) ∧ Fresh w w' s room n := by
  obtain ⟨i0, hi, hz0, hz1, hz2⟩ := info_parts infoU
  have d1 : decide ((room : Int) < 1) = false := decide_eq_false (by omega)
  have d2 : decide ((room : Int) > 4096) = false := decide_eq_false (by omega)
  have d3 : decide ((n : Int) < 1) = false := decide_eq_false (by omega)
  have d4 : decide ((n : Int) > 32) = false := decide_eq_false (by omega)
  go_enter Try.func14, Try.ntmps14
  go_wp2_with (refine wpList_make_full _ rfl _ _ 38 rfl w.heap.size TU i0 (.int .u64 0) 1 Try.underlying38 hi hz0 hz1 .i64 .i64 _ _ n rfl rfl rfl rfl (by rw [hz2]; omega) (by unfold maxLen; omega) (Nat.le_refl _) ?_; intro w1 hown hgr)
  have hu1 : Upd Nowhere w w1 := (Upd.refl Nowhere w).grown hgr (fun k _ h => by cases h)
  obtain ⟨cur, hc, _, _, hcs, hct⟩ := Blk.own hown
  have hsz1 := hc.lt
  have hS2 : Blk (w1.alloc (.cells #[.slice none 0 0, .slice (some ⟨w.heap.size, 0, none⟩) n n, .int .i64 room, .int .i64 0] TS)) w1.heap.size #[.slice none 0 0, .slice (some ⟨w.heap.size, 0, none⟩) n n, .int .i64 room, .int .i64 0] TS := Blk.new _ _ _
  have hC2 := hc.alloc (.cells #[.slice none 0 0, .slice (some ⟨w.heap.size, 0, none⟩) n n, .int .i64 room, .int .i64 0] TS)
  have hU2 := hu1.alloc (.cells #[.slice none 0 0, .slice (some ⟨w.heap.size, 0, none⟩) n n, .int .i64 room, .int .i64 0] TS)
  have hsz2 : (w1.alloc (.cells #[.slice none 0 0, .slice (some ⟨w.heap.size, 0, none⟩) n n, .int .i64 room, .int .i64 0] TS)).heap.size = w1.heap.size + 1 := by simp
  refine (empty_any _ w1.heap.size w.heap.size n room h1 h2 hn2 (hS2.cellAt rfl) (hS2.cellAt rfl)).mono ?_
  rintro e w3 ⟨v, rfl, rb, hR⟩
  have hS3 := hS2.kept hR.upd id
  have hC3 := hC2.kept hR.upd id
  have hU3 := hU2.trans hR.upd (fun _ _ h => h)
  have zs := hS3.free 0
  have cs := hS3.cellAt (i := 0) rfl
  have HC := Lib.hid hct
  have HS := Lib.hid hcs
  obtain ⟨_, ⟨rfl, hn0⟩ | ⟨gq, cq, cur2, rfl, hb2, hg2, hcap, _, hcs2, hct2⟩⟩ := hR.row
  · omega
  have HR := Lib.hid hR
  have HC2 := Lib.hid hct2
  have HS2 := Lib.hid hcs2
  clear hct hcs hct2 hcs2 hR hown hgr hS2 hC2 hU2 hc
  go_wp2_with fail
  go_ret2
  have hu : Upd (fun q => q = w1.heap.size) w3 (w3.setCell ⟨w1.heap.size, 0, none⟩ (.slice (some ⟨gq, 0, none⟩) n cq)) := Upd.setCell (S := fun q => q = w1.heap.size) (Upd.refl _ _) (fun _ => rfl) _
  have hlow : ∀ i, i < n → w1.heap.size + 1 ≤ rb i := fun i hi => by have := HR.out.low i hi; omega
  have hgqr : ∀ i, i < n → gq ≠ rb i := fun i hi e => HR.out.off i hi (by rw [← e]; rfl)
  have hgq : w1.heap.size + 1 ≤ gq := by omega
  refine ⟨w1.heap.size, rfl, gq, w.heap.size, cq, rb, ⟨?_, ⟨cur, hC3.kept hu (by omega), by have := HS.out; omega, fun i hi => ?_⟩, ⟨cur2, Blk.kept (show Blk w3 gq cur2 PT from hg2) hu (by omega), fun i hi => ?_⟩, fun i hi => (HR.out.ring i hi).kept hu (fun k hk e => ?_), by omega, hn2, h2, by omega, by omega, by omega, fun i hi k hk => ?_, fun i j hi hj hij k hk hk2 => ?_⟩, fun k hk => ?_, hU3.setNew (by simp; omega) _⟩
  · simpa using hS3.set 0 (.slice (some ⟨gq, 0, none⟩) n cq)
  · exact made_at HC.out hi
  · exact took_at HC2.out (by rw [ptrs_at rb hi]) (by rw [ptrs_len]; exact hi)
  · rcases hk with rfl | hk
    · have := hlow i hi; omega
    · cases hk
  · rcases hk with rfl | hk
    · have := hlow i hi; have := hgqr i hi; exact ⟨by omega, by omega, fun e => hgqr i hi e.symm⟩
    · cases hk
  · rcases hk with rfl | hk
    · rcases hk2 with hk2 | hk2
      · exact HR.out.apart i j hi hj hij hk2
      · cases hk2
    · cases hk
  · have := hu1.size
    rcases hk with rfl | rfl | rfl | ⟨i, hi, hk⟩
    · omega
    · omega
    · omega
    · rcases hk with rfl | hk
      · have := hlow i hi; omega
      · cases hk
end Go.Proofs.Ytopibbaopglggaa.SpI
