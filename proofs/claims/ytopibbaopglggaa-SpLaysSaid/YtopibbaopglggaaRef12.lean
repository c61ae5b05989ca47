/- The reference's queues: May, New, Len, First, Peek, Pop. -/
import Derived.Test.YtopibbaopglggaaProg
import Derived.Test.YtopibbaopglggaaRef12Core
import Derived.Test.YtopibbaopglggaaRef09
import Derived.Test.YtopibbaopglggaaMix
import Derived.Lib.Hide
import Derived.Laws.MakeOwn
import Derived.Deep.RegionLaw
import Derived.Deep.CutBlock
namespace Go.Proofs.Ytopibbaopglggaa.Ref12
open Go.RowKit Go.Proofs BigFrame
set_option maxHeartbeats 1000000
set_option maxRecDepth 1000000
abbrev TQ : TypeId := 135
abbrev TU : TypeId := 28
abbrev TL : TypeId := 93
abbrev TI : TypeId := 96
theorem infoU : (Try.prog.info? TU).map (fun i => (i.zero, i.size, i.bytes)) = some (some (.int .u64 0), 1, 8) := by kernel_rfl
theorem infoL : (Try.prog.info? TL).map (fun i => (i.zero, i.size, i.bytes)) = some (some (.slice none 0 0), 1, 24) := by kernel_rfl
theorem infoI : (Try.prog.info? TI).map (fun i => (i.zero, i.size, i.bytes)) = some (some (.agg #[.int .u64 0, .int .i64 0]), 2, 16) := by kernel_rfl
def mayC (room n : Int) : Int := if room < 1 ∨ 4096 < room then 25 else if n < 1 ∨ 32 < n then 24 else 0
theorem may_any (room n : Int) (w : World) :
    Calls Try.prog 26 #[.int .i64 room, .int .i64 n] w fun e w' => e = .returned (.int .i64 (mayC room n)) ∧ w = w' := by
  obtain ⟨r, hr⟩ : ∃ r, mayC room n = r := ⟨_, rfl⟩
  rw [hr]
  unfold mayC at hr
  by_cases h1 : room < 1
  · have d1 : decide (room < 1) = true := decide_eq_true h1
    rw [if_pos (.inl h1)] at hr
    subst hr
    go_enter Try.func26, Try.ntmps26
    go_wp2_with fail
    go_ret
    exact ⟨rfl, rfl⟩
  · have d1 : decide (room < 1) = false := decide_eq_false h1
    by_cases h2 : 4096 < room
    · have d2 : decide (room > 4096) = true := decide_eq_true h2
      have d3 : decide (4096 < room) = true := decide_eq_true h2
      rw [if_pos (.inr h2)] at hr
      subst hr
      clear h1 h2
      go_enter Try.func26, Try.ntmps26
      go_wp2_with fail
      go_ret
      exact ⟨rfl, rfl⟩
    · have d2 : decide (room > 4096) = false := decide_eq_false h2
      have d3 : decide (4096 < room) = false := decide_eq_false h2
      rw [if_neg (by omega)] at hr
      clear h1 h2
      by_cases h3 : n < 1
      · have d4 : decide (n < 1) = true := decide_eq_true h3
        rw [if_pos (.inl h3)] at hr
        subst hr
        clear h3
        go_enter Try.func26, Try.ntmps26
        go_wp2_with fail
        go_ret
        exact ⟨rfl, rfl⟩
      · have d4 : decide (n < 1) = false := decide_eq_false h3
        by_cases h4 : 32 < n
        · have d5 : decide (n > 32) = true := decide_eq_true h4
          have d6 : decide (32 < n) = true := decide_eq_true h4
          rw [if_pos (.inr h4)] at hr
          subst hr
          clear h3 h4
          go_enter Try.func26, Try.ntmps26
          go_wp2_with fail
          go_ret
          exact ⟨rfl, rfl⟩
        · have d5 : decide (n > 32) = false := decide_eq_false h4
          have d6 : decide (32 < n) = false := decide_eq_false h4
          rw [if_neg (by omega)] at hr
          subst hr
          clear h3 h4
          go_enter Try.func26, Try.ntmps26
          go_wp2_with fail
          go_ret
          exact ⟨rfl, rfl⟩
/-- Queues in the making. -/
structure Half (B : Nat) (w : World) (b room nb nl : Nat) (bv lv : Value) : Prop where
  blk : Blk w b #[.int .i64 room, bv, lv] TQ
  bnd : w.ownsRow B TU 1 bv nb (nums (fun _ => 0) nb)
  lst : w.ownsRow B TL 1 lv nl (vals (fun _ => .slice none 0 0) nl)
  low : B ≤ b
  ob : bv.ownBlock ≠ some b
  ol : lv.ownBlock ≠ some b
  bl : ∀ k, bv.ownBlock = some k → lv.ownBlock ≠ some k
theorem vals_const (v : Value) (n : Nat) : vals (fun _ => v) (n + 1) = vals (fun _ => v) n ++ [v] := by
  have h := vals_succ (fun _ => v) n v
  rwa [show upd (fun _ => v) n v = (fun _ => v) from by funext j; unfold upd; split <;> rfl] at h
section
variable {B : Nat} {w wx w1 : World} {b room nb nl : Nat} {bv lv v : Value}
theorem Half.growB (h : Half B w b room nb nl bv lv) (hx : Upd Nowhere w wx) (ho : w1.ownsRow B TU 1 v (nb + 1) (nums (fun _ => 0) nb ++ [.int .u64 0])) (hu : Upd (fun k => bv.ownBlock = some k) wx w1) (hn : OwnOrNew wx bv v) :
    Half B (w1.setCell ⟨b, 1, none⟩ v) b room (nb + 1) nl v lv ∧ Blk w1 b #[.int .i64 room, bv, lv] TQ := by
  have hb1 : Blk w1 b #[.int .i64 room, bv, lv] TQ := (h.blk.kept hx id).kept hu (fun e => h.ob e)
  have hu2 : Upd (fun k => k = b) w1 (w1.setCell ⟨b, 1, none⟩ v) := (Upd.refl (fun k => k = b) w1).setCell (a := ⟨b, 1, none⟩) (fun _ => rfl) _
  have hvb : v.ownBlock ≠ some b := fun e => by
    rcases hn b e with h1 | h1
    · exact h.ob h1
    · exact absurd (h.blk.kept hx id).lt (Nat.not_lt.2 h1)
  have hl1 : w1.ownsRow B TL 1 lv nl (vals (fun _ => .slice none 0 0) nl) := ownsRow_upd (ownsRow_upd h.lst hx (fun _ _ h => h)) hu (fun k hk e => h.bl k e hk)
  refine ⟨⟨hb1.set 1 _, ?_, ownsRow_upd hl1 hu2 (fun k hk e => h.ol (by rw [hk, e])), h.low, hvb, h.ol, fun k hk hk2 => ?_⟩, hb1⟩
  · unfold nums at ho ⊢
    rw [vals_const]
    exact ownsRow_upd ho hu2 (fun k hk e => hvb (by rw [hk, e]))
  · rcases hn k hk with h1 | h1
    · exact h.bl k h1 hk2
    · exact absurd (h.lst.lt k hk2).2 (Nat.not_lt.2 (Nat.le_trans hx.size h1))
theorem Half.growL (h : Half B w b room nb nl bv lv) (hx : Upd Nowhere w wx) (ho : w1.ownsRow B TL 1 v (nl + 1) (vals (fun _ => .slice none 0 0) nl ++ [.slice none 0 0])) (hu : Upd (fun k => lv.ownBlock = some k) wx w1) (hn : OwnOrNew wx lv v) :
    Half B (w1.setCell ⟨b, 2, none⟩ v) b room nb (nl + 1) bv v ∧ Blk w1 b #[.int .i64 room, bv, lv] TQ := by
  have hb1 : Blk w1 b #[.int .i64 room, bv, lv] TQ := (h.blk.kept hx id).kept hu (fun e => h.ol e)
  have hu2 : Upd (fun k => k = b) w1 (w1.setCell ⟨b, 2, none⟩ v) := (Upd.refl (fun k => k = b) w1).setCell (a := ⟨b, 2, none⟩) (fun _ => rfl) _
  have hvb : v.ownBlock ≠ some b := fun e => by
    rcases hn b e with h1 | h1
    · exact h.ol h1
    · exact absurd (h.blk.kept hx id).lt (Nat.not_lt.2 h1)
  have hl1 : w1.ownsRow B TU 1 bv nb (nums (fun _ => 0) nb) := ownsRow_upd (ownsRow_upd h.bnd hx (fun _ _ h => h)) hu (fun k hk e => h.bl k hk e)
  refine ⟨⟨hb1.set 2 _, ownsRow_upd hl1 hu2 (fun k hk e => h.ob (by rw [hk, e])), ?_, h.low, h.ob, hvb, fun k hk hk2 => ?_⟩, hb1⟩
  · rw [vals_const]
    exact ownsRow_upd ho hu2 (fun k hk e => hvb (by rw [hk, e]))
  · rcases hn k hk2 with h1 | h1
    · exact h.bl k hk h1
    · exact absurd (h.bnd.lt k hk).2 (Nat.not_lt.2 (Nat.le_trans hx.size h1))
end
theorem own_form {E : TypeId} {size base n : Nat} {w : World} {v : Value} {xs : List Value} (h : w.ownsRow base E size v n xs) : ∃ ad c, v = .slice ad n c := by
  rcases h.2 with ⟨rfl, h0⟩ | ⟨g, c, cur, rfl, _⟩
  · exact ⟨none, 0, by rw [h0]⟩
  · exact ⟨_, c, rfl⟩
abbrev Ref (B : Nat) (w : World) (b room n : Nat) (bv lv : Value) (vs : Nat → Value) (bs : Nat → Nat) (qs : Nat → List (Nat × Int)) : Prop := RefIn TQ TU TL TI B w b room n bv lv vs bs qs
theorem new_any (w : World) (room n : Nat) (hn : n ≤ 32) :
    Calls Try.prog 27 #[.int .i64 room, .int .i64 n] w fun e w' => ∃ bv lv, e = .returned (.pointer (some ⟨w.heap.size, 0, none⟩)) ∧ Ref w.heap.size w' w.heap.size room n bv lv (fun _ => .slice none 0 0) (fun _ => 0) (fun _ => []) ∧ Upd Nowhere w w' := by
  obtain ⟨i0, hi, hz0, hz1, hz2⟩ := info_parts infoU
  obtain ⟨j0, hj, jz0, jz1, jz2⟩ := info_parts infoL
  go_enter Try.func27, Try.ntmps27
  go_wp2_with fail
  go_loopw [6] (fun i wr => ∃ (k : Nat) (bv lv : Value), k ≤ n ∧ i = .int .i64 k ∧ Half w.heap.size wr w.heap.size room k k bv lv ∧ Upd Nowhere w wr) (fun i _ => n - (intOf i).toNat)
  case atStart => exact ⟨0, _, _, by omega, rfl, ⟨Blk.new _ _ _, ownsRow_nil _ _ _ _, ownsRow_nil _ _ _ _, Nat.le_refl _, by simp [Value.ownBlock], by simp [Value.ownBlock], by simp [Value.ownBlock]⟩, (Upd.refl _ _).alloc _⟩
  case round =>
    obtain ⟨k, bv, lv, hk, rfl, hH, hu⟩ := hrel
    obtain ⟨wB, rfl⟩ : ∃ x, x = wr := ⟨_, rfl⟩
    by_cases hlt : k < n
    · have hI : (k : Int) < n := by omega
      obtain ⟨c0, c1, c2, z0, z1, z2⟩ := cells3 hH.blk
      obtain ⟨ab, cb, rfl⟩ := own_form hH.bnd
      obtain ⟨al, cl, rfl⟩ := own_form hH.lst
      have HH := Lib.hid hH
      have HU := Lib.hid hu
      have hsz := hu.size
      clear hH hu c0 c2
      go_upto_region 6 with (at_builtin; (refine wpList_push rfl _ _ 38 rfl w.heap.size TU i0 (.int .u64 0) 1 8 Try.underlying38 hi hz0 hz1 hz2 rfl (by decide) (by decide) _ _ _ rfl (ownsRow_upd HH.out.bnd ((Upd.refl _ _).alloc _) (fun _ _ h => h)) wB.heap.size 1 [.int .u64 0] rfl rfl (new_cells wB #[_] _) (by simp [Value.oneCell']) (by omega) (by simp; omega) ?_; intro v3 w3 hown hu3 hno; have hg := HH.out.growB ((Upd.refl _ _).alloc _) hown hu3 hno; have HU3 := Lib.hid ((HU.out.alloc _).trans hu3 (fun q hq h => absurd hq (Nat.not_lt.2 (HH.out.bnd.lt q h).1))); have HH3 := Lib.hid hg.1; obtain ⟨y0, y1, y2, f0, f1, f2⟩ := cells3 hg.2; have hsz3 := HU3.out.size; obtain ⟨ab3, cb3, rfl⟩ := own_form hown; clear hg hown hu3 hno y0))
      go_wp2_with (at_builtin; (go_loud (refine wpList_push rfl _ _ 91 rfl w.heap.size TL j0 (.slice none 0 0) 1 24 Try.underlying91 hj jz0 jz1 jz2 rfl (by decide) (by decide) _ _ _ rfl (ownsRow_upd HH3.out.lst ((Upd.refl _ _).alloc _) (fun _ _ h => h)) w3.heap.size 1 [.slice none 0 0] rfl rfl (fun j u hu => by have h := new_cells (w3.setCell ⟨w.heap.size, 1, none⟩ (.slice ab3 (k + 1) cb3)) #[.slice none 0 0] TL j u hu; simpa using h) (by simp [Value.oneCell']) (by omega) (by simp; omega) ?_; intro v4 w4 hown hu4 hno; have hg := HH3.out.growL ((Upd.refl _ _).alloc _) hown hu4 hno; obtain ⟨x0, x1, x2, e0, e1, e2⟩ := cells3 hg.2; have HH4 := Lib.hid hg.1; have HU4 := Lib.hid (((HU3.out.setNew (a := ⟨w.heap.size, 1, none⟩) (Nat.le_refl _) _).alloc _).trans hu4 (fun q hq h => absurd hq (Nat.not_lt.2 (HH3.out.lst.lt q h).1))); obtain ⟨al4, cl4, rfl⟩ := own_form hown; clear hg hown hu4 hno)))
      go_roundw
      case rel => exact ⟨k + 1, _, _, by omega, by go_num, HH4.out, HU4.out.setNew (a := ⟨w.heap.size, 2, none⟩) (Nat.le_refl _) _⟩
      case measure => simp [intOf]; omega
    · obtain rfl : k = n := by omega
      go_wp2_with fail
      go_ret
      exact ⟨bv, lv, rfl, ⟨hH.blk, hH.bnd, hH.lst, fun i hi => PRow.nil _ _ _, hH.low, hH.ob, hH.ol, hH.bl, fun i hi k hk => by cases hk⟩, hu⟩
end Go.Proofs.Ytopibbaopglggaa.Ref12
