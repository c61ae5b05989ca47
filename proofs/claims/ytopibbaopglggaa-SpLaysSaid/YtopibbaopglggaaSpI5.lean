/- sppifo's queues of int: Bounds. -/
import Derived.Test.YtopibbaopglggaaSpI4
import Derived.Laws.CopyOwn
namespace Go.Proofs.Ytopibbaopglggaa.SpI
open Go.RowKit Go.Proofs BigFrame
open PairI (TR TE el)
set_option maxHeartbeats 2000000
set_option maxRecDepth 100000
/-- The bounds, in a row. -/
def brow (bs : Nat → Nat) (n : Nat) : List Value := (List.range n).map fun i => .int .u64 (bs i : Nat)
theorem brow_len (bs : Nat → Nat) (n : Nat) : (brow bs n).length = n := by simp [brow]
theorem brow_at (bs : Nat → Nat) {n i : Nat} (h : i < n) : (brow bs n)[i]? = some (.int .u64 (bs i : Nat)) := by simp [brow, h]
theorem brow_some (bs : Nat → Nat) {n i : Nat} {v : Value} (h : (brow bs n)[i]? = some v) : i < n ∧ v = .int .u64 (bs i : Nat) := by
  have hi : i < n := by
    rcases Nat.lt_or_ge i n with h' | h'
    · exact h'
    · rw [List.getElem?_eq_none (by rw [brow_len]; exact h')] at h; cases h
  rw [brow_at bs hi] at h
  exact ⟨hi, (Option.some.inj h).symm⟩
theorem bounds_any (w : World) (s gq gb cq n room cnt : Nat) (rb : Nat → Nat) (rg : Nat → Option Nat) (bs : Nat → Nat) (qs : Nat → List (Value × Value))
    (h : SpIn TS TR TE PT TU w s gq gb cq n room cnt rb rg bs qs) :
    Calls Try.prog 18 #[.pointer (some ⟨s, 0, none⟩)] w fun e w' => ∃ v, e = .returned v ∧ RowAt w' v (brow bs n) ∧ Upd Nowhere w w' := by
  obtain ⟨i0, hi, hz0, hz1, hz2⟩ := info_parts infoU
  have hsz : (Try.prog.info? TU).map (·.size) = some 1 := by rw [hi]; exact congrArg some hz1
  obtain ⟨c0, c1, c2, c3, z0, z1, z2, z3⟩ := cells4 h.blk
  have hnp := h.npos
  have hnl := h.nle
  have H := Lib.hid h
  clear h
  go_enter Try.func18, Try.ntmps18
  go_wp2_with (first
    | (refine wpList_make_full _ rfl _ _ 38 rfl w.heap.size TU i0 (.int .u64 0) 1 Try.underlying38 hi hz0 hz1 .i64 .i64 _ _ n rfl rfl rfl rfl (by rw [hz2]; omega) (by unfold maxLen; omega) (Nat.le_refl _) ?_; intro w1 hown hgr; have hu1 : Upd Nowhere w w1 := (Upd.refl Nowhere w).grown hgr (fun k _ h => by cases h); have H1 := Lib.hid (H.out.old hu1); obtain ⟨cur, hc, _, _, hcs, _⟩ := Blk.own hown; obtain ⟨c0, c1, c2, c3, z0, z1, z2, z3⟩ := cells4 H1.out.blk; have hcs' : cur.size = n := by omega)
    | (refine wpList_copy_own rfl _ _ 38 38 rfl TU Try.underlying38 hsz w.heap.size 0 n n ⟨gb, 0, none⟩ n n rfl rfl cur TU hc (brow bs n) (by rw [brow_len]; exact (Nat.min_self n).symm) (fun j v hv => by obtain ⟨hj, rfl⟩ := brow_some bs hv; rw [add_at, Nat.zero_add]; exact H1.out.bcell hj) (by rw [brow_len]; omega) (fun v hv => by obtain ⟨i, _, rfl⟩ := List.mem_map.1 hv; rfl) ?_))
  go_ret
  obtain ⟨hb, hu⟩ := setRow_eq w1 w.heap.size (brow bs n ++ cur.toList.drop (brow bs n).length).toArray cur TU hc
  refine ⟨_, rfl, ⟨some ⟨w.heap.size, 0, none⟩, n, by rw [brow_len]; rfl, (fun h => by cases h), fun b hb' j u hj => ?_⟩, hu1.trans hu (fun k hk h => by omega)⟩
  obtain rfl := Option.some.inj hb'
  refine ⟨rfl, ?_⟩
  have hjl := (brow_some bs hj).1
  rw [Nat.zero_add]
  refine hb.cellAt ?_
  rw [List.getElem?_toArray, List.getElem?_append_left (by rw [brow_len]; exact hjl)]
  exact hj
theorem has_bounds {w0 w : World} {s n room cnt : Nat} {bs : Nat → Nat} {qs : Nat → List (Int × Int)} (h : Has w0 w s n room cnt bs qs) :
    Calls Try.prog 18 #[.pointer (some ⟨s, 0, none⟩)] w fun e w' => ∃ v, e = .returned v ∧ RowAt w' v (brow bs n) ∧ Upd Nowhere w w' := by
  obtain ⟨gq, gb, cq, rb, rg, h1, _⟩ := h
  exact bounds_any w s gq gb cq n room cnt rb rg bs _ h1
theorem Has.fit {w0 w : World} {s n room cnt : Nat} {bs : Nat → Nat} {qs : Nat → List (Int × Int)} (h : Has w0 w s n room cnt bs qs) : Fit n bs := by
  obtain ⟨gq, gb, cq, rb, rg, _, _, _, h4, _⟩ := h; exact h4
end Go.Proofs.Ytopibbaopglggaa.SpI
