/- EgC, one behind the other. -/
import Derived.Test.YtdddfmdcjjbegaaGreatMeEg9
namespace Go.Proofs.YtdddfmdcjjbegaaGreat.Egs
open Go.RowKit Go.Proofs BigFrame
open RingW (It KI zI ZI VI TE)
open First (Cf VC TCl)
set_option maxHeartbeats 4000000
set_option maxRecDepth 1000000
set_option linter.unusedSimpArgs false
/-- Of a class whose room may be: the error of its policy. -/
def polS (c : Cf) : Nat :=
 if c.policy = 0 ∨ c.policy = 4 then 0
 else if c.policy = 1 then (if Red.ok c.el c.eh c.em c.es then 0 else 6)
 else if c.policy = 2 then (if 1 ≤ c.li ∧ c.li ≤ 2147483648 then 0 else 6)
 else if c.policy = 3 then (if c.window < 1 ∨ 1024 < c.window then 25 else if c.den < 1 ∨ 65536 < c.den ∨ c.den ≤ c.num then 6 else 0)
 else 22
theorem policy_zero {w : World} {c : Cf} (h : c.policy = 0 ∨ c.policy = 4) :
 Calls Tryz.prog 84 #[.agg (VC c)] w fun x w' => x = .returned (.int .i64 0) ∧ Upd Nowhere w w' := by
 have hU : Upd Nowhere w (w.alloc (.cells (VC c) TCl)) := (Upd.refl _ _).alloc _
 obtain ⟨x0, x1, x2, x3, x4, x5, x6, x7, x8, x9, x10, x11, x12, x13, x14, x15⟩ := c
 dsimp only at h hU ⊢
 rcases h with rfl | rfl
 · go_enter Tryz.func84, Tryz.ntmps84
   go_wp2_with fail
   go_ret
   exact ⟨rfl, hU⟩
 · go_enter Tryz.func84, Tryz.ntmps84
   go_wp2_with fail
   go_ret
   exact ⟨rfl, hU⟩
theorem policy_one {w : World} {c : Cf} (h : c.policy = 1) :
 Calls Tryz.prog 84 #[.agg (VC c)] w fun x w' => x = .returned (.int .i64 ((if Red.ok c.el c.eh c.em c.es then 0 else 6 : Nat) : Nat)) ∧ Upd Nowhere w w' := by
 have hU : Upd Nowhere w (w.alloc (.cells (VC c) TCl)) := (Upd.refl _ _).alloc _
 obtain ⟨x0, x1, x2, x3, x4, x5, x6, x7, x8, x9, x10, x11, x12, x13, x14, x15⟩ := c
 dsimp only at h hU ⊢
 subst h
 obtain ⟨r, hr⟩ : ∃ r : Nat, (if Red.ok x6 x7 x8 x9 then 0 else 6 : Nat) = r := ⟨_, rfl⟩
 have HC : ∀ u, Hid (Calls Tryz.prog 99 #[.agg #[.int .u64 x6, .int .u64 x7, .int .u64 x8, .int .i64 x9]] u fun e w' => e = .returned (.int .i64 r) ∧ Upd Nowhere u w') := fun u => by
  by_cases hk : Red.ok x6 x7 x8 x9
  · rw [if_pos hk] at hr; subst hr; exact Lib.hid ((Red.check_ok x6 x7 x8 x9 hk u).mono fun _ _ h => h)
  · rw [if_neg hk] at hr; subst hr; exact Lib.hid ((Red.check_no x6 x7 x8 x9 hk u).mono fun _ _ h => h)
 rw [hr]
 clear hr
 go_enter Tryz.func84, Tryz.ntmps84
 go_wp2_with fail
 refine ((HC _).out).mono ?_
 rintro x w' ⟨rfl, hu⟩
 go_wp2_with fail
 go_ret
 exact ⟨rfl, hU.trans hu (fun _ _ h => h)⟩
theorem policy_two {w : World} {c : Cf} (h : c.policy = 2) :
 Calls Tryz.prog 84 #[.agg (VC c)] w fun x w' => x = .returned (.int .i64 ((if 1 ≤ c.li ∧ c.li ≤ 2147483648 then 0 else 6 : Nat) : Nat)) ∧ Upd Nowhere w w' := by
 have hU : Upd Nowhere w (w.alloc (.cells (VC c) TCl)) := (Upd.refl _ _).alloc _
 obtain ⟨x0, x1, x2, x3, x4, x5, x6, x7, x8, x9, x10, x11, x12, x13, x14, x15⟩ := c
 dsimp only at h hU ⊢
 subst h
 obtain ⟨r, hr⟩ : ∃ r : Nat, (if 1 ≤ x11 ∧ x11 ≤ 2147483648 then 0 else 6 : Nat) = r := ⟨_, rfl⟩
 have HC : ∀ u, Hid (Calls Tryz.prog 104 #[.agg #[.int .u64 x10, .int .u64 x11, .int .u64 x12]] u fun e w' => e = .returned (.int .i64 r) ∧ Upd Nowhere u w') := fun u => by
  by_cases hk : 1 ≤ x11 ∧ x11 ≤ 2147483648
  · rw [if_pos hk] at hr; subst hr; exact Lib.hid ((Codel.check_ok x10 x11 x12 hk.1 hk.2 u).mono fun _ _ h => h)
  · rw [if_neg hk] at hr; subst hr; exact Lib.hid ((Codel.check_no x10 x11 x12 hk u).mono fun _ _ h => h)
 rw [hr]
 clear hr
 go_enter Tryz.func84, Tryz.ntmps84
 go_wp2_with fail
 refine ((HC _).out).mono ?_
 rintro x w' ⟨rfl, hu⟩
 go_wp2_with fail
 go_ret
 exact ⟨rfl, hU.trans hu (fun _ _ h => h)⟩
theorem policy_three {w : World} {c : Cf} (h : c.policy = 3) (h1 : 1 ≤ c.room) (h2 : c.room ≤ 4096) :
 Calls Tryz.prog 84 #[.agg (VC c)] w fun x w' => x = .returned (.int .i64 ((if c.window < 1 ∨ 1024 < c.window then 25 else if c.den < 1 ∨ 65536 < c.den ∨ c.den ≤ c.num then 6 else 0 : Nat) : Nat)) ∧ Upd Nowhere w w' := by
 have hU : Upd Nowhere w (w.alloc (.cells (VC c) TCl)) := (Upd.refl _ _).alloc _
 obtain ⟨x0, x1, x2, x3, x4, x5, x6, x7, x8, x9, x10, x11, x12, x13, x14, x15⟩ := c
 dsimp only at h h1 h2 hU ⊢
 subst h
 obtain ⟨r, hr⟩ : ∃ r : Nat, (if x13 < 1 ∨ 1024 < x13 then 25 else if x15 < 1 ∨ 65536 < x15 ∨ x15 ≤ x14 then 6 else 0 : Nat) = r := ⟨_, rfl⟩
 have HC : ∀ u, Hid (Calls Tryz.prog 34 #[.int .i64 x0, .int .i64 x13, .int .u64 x14, .int .u64 x15] u fun e w' => (∃ p, e = .returned (.tuple #[.pointer p, .int .i64 r])) ∧ Upd Nowhere u w') := fun u => by
  by_cases hk : x13 < 1 ∨ 1024 < x13
  · rw [if_pos hk] at hr; subst hr
    refine Lib.hid ((Aifo.new_caps u x0 x13 x14 x15 (.inr (.inr hk))).mono ?_)
    rintro e w' ⟨e1, e2⟩
    exact ⟨⟨none, e1⟩, by first | exact e2 | (rw [← e2]; exact Upd.refl _ _)⟩
  · rw [if_neg hk] at hr
    by_cases hk2 : x15 < 1 ∨ 65536 < x15 ∨ x15 ≤ x14
    · rw [if_pos hk2] at hr; subst hr
      refine Lib.hid ((Aifo.new_arg u x0 x13 x14 x15 h1 h2 (by omega) (by omega) hk2).mono ?_)
      rintro e w' ⟨e1, e2⟩
      exact ⟨⟨none, e1⟩, by first | exact e2 | (rw [← e2]; exact Upd.refl _ _)⟩
    · rw [if_neg hk2] at hr; subst hr
      obtain ⟨a, rfl⟩ : ∃ a : Nat, x0 = a := ⟨x0.toNat, by omega⟩
      obtain ⟨b, rfl⟩ : ∃ b : Nat, x13 = b := ⟨x13.toNat, by omega⟩
      refine Lib.hid ((Aifo.new_ok u a b x14 x15 (by omega) (by omega) (by omega) (by omega) (by omega) (by omega)).mono ?_)
      rintro e w' ⟨p, e1, _, e2⟩
      exact ⟨⟨_, e1⟩, e2⟩
 rw [hr]
 clear hr h1 h2
 go_enter Tryz.func84, Tryz.ntmps84
 go_wp2_with fail
 refine ((HC _).out).mono ?_
 rintro x w' ⟨⟨p, rfl⟩, hu⟩
 go_wp2_with fail
 go_ret
 exact ⟨rfl, hU.trans hu (fun _ _ h => h)⟩
theorem policy_else {w : World} {c : Cf} (h : c.policy < 0 ∨ 4 < c.policy) :
 Calls Tryz.prog 84 #[.agg (VC c)] w fun x w' => x = .returned (.int .i64 22) ∧ Upd Nowhere w w' := by
 have hU : Upd Nowhere w (w.alloc (.cells (VC c) TCl)) := (Upd.refl _ _).alloc _
 obtain ⟨x0, x1, x2, x3, x4, x5, x6, x7, x8, x9, x10, x11, x12, x13, x14, x15⟩ := c
 dsimp only at h hU ⊢
 have d0 : (x1 == 0) = false := by simp; omega
 have d1 : (x1 == 1) = false := by simp; omega
 have d2 : (x1 == 2) = false := by simp; omega
 have d3 : (x1 == 3) = false := by simp; omega
 have d4 : (x1 == 4) = false := by simp; omega
 clear h
 go_enter Tryz.func84, Tryz.ntmps84
 go_wp2_with fail
 go_ret
 exact ⟨rfl, hU⟩
theorem policy_any {w : World} {c : Cf} (h1 : 1 ≤ c.room) (h2 : c.room ≤ 4096) :
 Calls Tryz.prog 84 #[.agg (VC c)] w fun x w' => x = .returned (.int .i64 (polS c : Nat)) ∧ Upd Nowhere w w' := by
 unfold polS
 by_cases h0 : c.policy = 0 ∨ c.policy = 4
 · rw [if_pos h0]; exact policy_zero h0
 · rw [if_neg h0]
   by_cases e1 : c.policy = 1
   · rw [if_pos e1]; exact policy_one e1
   · rw [if_neg e1]
     by_cases e2 : c.policy = 2
     · rw [if_pos e2]; exact policy_two e2
     · rw [if_neg e2]
       by_cases e3 : c.policy = 3
       · rw [if_pos e3]; exact policy_three e3 h1 h2
       · rw [if_neg e3]; exact policy_else (by omega)
instance (i s h v : Int) : Decidable (Credit.okc i s h v) := by unfold Credit.okc; exact inferInstance
/-- A class's error; 0: it may be. -/
def chkS (c : Cf) : Nat :=
 if c.room < 1 ∨ 4096 < c.room then 25
 else if polS c ≠ 0 then polS c
 else if c.credit = true then (if Credit.okc c.idle c.send c.high 0 then 0 else 6)
 else 0
theorem check_room {w : World} {c : Cf} (h : c.room < 1 ∨ 4096 < c.room) :
 Calls Tryz.prog 51 #[.agg (VC c)] w fun x w' => x = .returned (.int .i64 25) ∧ Upd Nowhere w w' := by
 have hU : Upd Nowhere w (w.alloc (.cells (VC c) TCl)) := (Upd.refl _ _).alloc _
 obtain ⟨x0, x1, x2, x3, x4, x5, x6, x7, x8, x9, x10, x11, x12, x13, x14, x15⟩ := c
 dsimp only at h hU ⊢
 by_cases h0 : x0 < 1
 · have d0 : decide (x0 < 1) = true := decide_eq_true h0
   clear h
   go_enter Tryz.func51, Tryz.ntmps51
   go_wp2_with fail
   go_ret
   exact ⟨rfl, hU⟩
 · have d0 : decide (x0 < 1) = false := decide_eq_false h0
   have d1 : decide (4096 < x0) = true := decide_eq_true (by omega)
   clear h
   go_enter Tryz.func51, Tryz.ntmps51
   go_wp2_with fail
   go_ret
   exact ⟨rfl, hU⟩
theorem check_pol {w : World} {c : Cf} (h1 : 1 ≤ c.room) (h2 : c.room ≤ 4096) (h : polS c ≠ 0 ∨ c.credit = false) :
 Calls Tryz.prog 51 #[.agg (VC c)] w fun x w' => x = .returned (.int .i64 (polS c : Nat)) ∧ Upd Nowhere w w' := by
 have hU : Upd Nowhere w (w.alloc (.cells (VC c) TCl)) := (Upd.refl _ _).alloc _
 have hB : Blk (w.alloc (.cells (VC c) TCl)) w.heap.size (VC c) TCl := Blk.new _ _ _
 have HP := fun u => Lib.hid (policy_any (w := u) h1 h2)
 obtain ⟨r, hr⟩ : ∃ r, polS c = r := ⟨_, rfl⟩
 rw [hr] at HP h ⊢
 have HBK := fun u (hu : Upd Nowhere (w.alloc (.cells (VC c) TCl)) u) => Lib.hid (show u.cell? ⟨w.heap.size, 2, none⟩ = some (.bool c.credit) from cell_old hu (hB.cellAt rfl))
 have d0 : decide (c.room < 1) = false := decide_eq_false (by omega)
 have d1 : decide (4096 < c.room) = false := decide_eq_false (by omega)
 clear hr h1 h2 hB
 obtain ⟨x0, x1, x2, x3, x4, x5, x6, x7, x8, x9, x10, x11, x12, x13, x14, x15⟩ := c
 dsimp only at h hU HP HBK d0 d1 ⊢
 by_cases hr0 : r = 0
 · have hx2 : x2 = false := by rcases h with h | h; exact absurd hr0 h; exact h
   subst hx2
   subst hr0
   clear h
   go_enter Tryz.func51, Tryz.ntmps51
   go_wp2_with fail
   refine ((HP _).out).mono ?_
   rintro x w2 ⟨rfl, hu⟩
   have k2 := (HBK _ hu).out
   go_wp2_with fail
   go_ret
   exact ⟨rfl, hU.trans hu (fun _ _ h => h)⟩
 · have dr : ((r : Int) != 0) = true := by simp; omega
   clear h
   go_enter Tryz.func51, Tryz.ntmps51
   go_wp2_with fail
   refine ((HP _).out).mono ?_
   rintro x w2 ⟨rfl, hu⟩
   go_wp2_with fail
   go_ret
   exact ⟨rfl, hU.trans hu (fun _ _ h => h)⟩
theorem check_cred {w : World} {c : Cf} (h1 : 1 ≤ c.room) (h2 : c.room ≤ 4096) (h : polS c = 0) (hc : c.credit = true) :
 Calls Tryz.prog 51 #[.agg (VC c)] w fun x w' => x = .returned (.int .i64 ((if Credit.okc c.idle c.send c.high 0 then 0 else 6 : Nat) : Nat)) ∧ Upd Nowhere w w' := by
 have hU : Upd Nowhere w (w.alloc (.cells (VC c) TCl)) := (Upd.refl _ _).alloc _
 have hB : Blk (w.alloc (.cells (VC c) TCl)) w.heap.size (VC c) TCl := Blk.new _ _ _
 have HP := fun u => Lib.hid (policy_any (w := u) h1 h2)
 rw [h] at HP
 have HBK := fun u (hu : Upd Nowhere (w.alloc (.cells (VC c) TCl)) u) => Lib.hid (show u.cell? ⟨w.heap.size, 2, none⟩ = some (.bool c.credit) ∧ u.cell? ⟨w.heap.size, 3, none⟩ = some (.int .i64 c.idle) ∧ u.cell? ⟨w.heap.size, 4, none⟩ = some (.int .i64 c.send) ∧ u.cell? ⟨w.heap.size, 5, none⟩ = some (.int .i64 c.high) from ⟨cell_old hu (hB.cellAt rfl), cell_old hu (hB.cellAt rfl), cell_old hu (hB.cellAt rfl), cell_old hu (hB.cellAt rfl)⟩)
 have d0 : decide (c.room < 1) = false := decide_eq_false (by omega)
 have d1 : decide (4096 < c.room) = false := decide_eq_false (by omega)
 obtain ⟨r, hr⟩ : ∃ r : Nat, (if Credit.okc c.idle c.send c.high 0 then 0 else 6 : Nat) = r := ⟨_, rfl⟩
 have HC : ∀ u, Hid (Calls Tryz.prog 35 #[.int .i64 c.idle, .int .i64 c.send, .int .i64 c.high] u fun e w' => (∃ a0 a1 a2 a3 : Int, e = .returned (.tuple #[Credit.VC a0 a1 a2 a3, .int .i64 r])) ∧ Upd Nowhere u w') := fun u => by
  by_cases hk : Credit.okc c.idle c.send c.high 0
  · rw [if_pos hk] at hr; subst hr; exact Lib.hid ((Credit.new_ok u hk).mono fun _ _ ⟨h1, h2⟩ => ⟨⟨_, _, _, _, h1⟩, h2⟩)
  · rw [if_neg hk] at hr; subst hr; exact Lib.hid ((Credit.new_no u hk).mono fun _ _ ⟨h1, h2⟩ => ⟨⟨_, _, _, _, h1⟩, h2⟩)
 rw [hr]
 clear hr h1 h2 hB h
 obtain ⟨x0, x1, x2, x3, x4, x5, x6, x7, x8, x9, x10, x11, x12, x13, x14, x15⟩ := c
 dsimp only at hc hU HP HBK HC d0 d1 ⊢
 subst hc
 go_enter Tryz.func51, Tryz.ntmps51
 go_wp2_with fail
 refine ((HP _).out).mono ?_
 rintro x w2 ⟨rfl, hu⟩
 obtain ⟨k2, k3, k4, k5⟩ := (HBK _ hu).out
 go_wp2_with fail
 refine ((HC _).out).mono ?_
 rintro x w3 ⟨⟨a0, a1, a2, a3, rfl⟩, hu3⟩
 go_wp2_with fail
 go_ret
 exact ⟨rfl, ((hU.trans hu (fun _ _ h => h)).trans hu3 (fun _ _ h => h)).alloc _⟩
theorem check_any {w : World} {c : Cf} :
 Calls Tryz.prog 51 #[.agg (VC c)] w fun x w' => x = .returned (.int .i64 (chkS c : Nat)) ∧ Upd Nowhere w w' := by
 unfold chkS
 by_cases h0 : c.room < 1 ∨ 4096 < c.room
 · rw [if_pos h0]; exact check_room h0
 · rw [if_neg h0]
   by_cases h1 : polS c ≠ 0
   · rw [if_pos h1]; exact check_pol (by omega) (by omega) (.inl h1)
   · rw [if_neg h1]
     have h1' : polS c = 0 := Classical.not_not.1 h1
     cases hc : c.credit with
     | false =>
       have := check_pol (w := w) (c := c) (by omega) (by omega) (.inr hc)
       rw [h1'] at this
       exact this
     | true => rw [if_pos rfl]; exact check_cred (by omega) (by omega) h1' hc
theorem chk_ok {c : Cf} (h : chkS c = 0) : OkF c := by
 unfold chkS at h
 by_cases h0 : c.room < 1 ∨ 4096 < c.room
 · rw [if_pos h0] at h; cases h
 · rw [if_neg h0] at h
   by_cases h1 : polS c ≠ 0
   · rw [if_pos h1] at h; exact absurd h h1
   · rw [if_neg h1] at h
     have h1' : polS c = 0 := Classical.not_not.1 h1
     have hp : 0 ≤ c.policy ∧ c.policy ≤ 4 := by
      by_cases hq : c.policy < 0 ∨ 4 < c.policy
      · have : polS c = 22 := by unfold polS; rw [if_neg (by omega), if_neg (by omega), if_neg (by omega), if_neg (by omega)]
        rw [this] at h1'; cases h1'
      · omega
     refine ⟨by omega, by omega, hp.1, hp.2, fun e => ?_, fun e => ?_, fun e => ?_, fun e => ?_⟩
     · unfold polS at h1'
       rw [if_neg (by omega), if_pos e] at h1'
       by_cases hk : Red.ok c.el c.eh c.em c.es
       · exact hk
       · rw [if_neg hk] at h1'; cases h1'
     · unfold polS at h1'
       rw [if_neg (by omega), if_neg (by omega), if_pos e] at h1'
       by_cases hk : 1 ≤ c.li ∧ c.li ≤ 2147483648
       · exact hk
       · rw [if_neg hk] at h1'; cases h1'
     · unfold polS at h1'
       rw [if_neg (by omega), if_neg (by omega), if_neg (by omega), if_pos e] at h1'
       by_cases hk : c.window < 1 ∨ 1024 < c.window
       · rw [if_pos hk] at h1'; cases h1'
       · rw [if_neg hk] at h1'
         by_cases hk2 : c.den < 1 ∨ 65536 < c.den ∨ c.den ≤ c.num
         · rw [if_pos hk2] at h1'; cases h1'
         · omega
     · rw [if_pos e] at h
       by_cases hk : Credit.okc c.idle c.send c.high 0
       · exact hk
       · rw [if_neg hk] at h; cases h
end Go.Proofs.YtdddfmdcjjbegaaGreat.Egs

