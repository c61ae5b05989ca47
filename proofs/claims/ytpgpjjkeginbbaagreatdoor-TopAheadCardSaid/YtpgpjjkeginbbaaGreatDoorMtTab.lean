/- Tab, Tab2, Tab3, Tab4, Tab5, Tab6, Tab7, one behind the other. -/
import Derived.Test.YtpgpjjkeginbbaaGreatDoorProg
import Derived.Test.YtpgpjjkeginbbaaGreatDoorMtA
import Derived.Lib.Hide
import Derived.Deep.DeepCutAuto
import Derived.Deep.LoopGhost
namespace Go.Proofs.YtpgpjjkeginbbaaGreatDoor.Tab
open Go.RowKit Go.Proofs BigFrame
open HeapW (putL setL)
set_option maxHeartbeats 4000000
set_option maxRecDepth 1000000
set_option linter.unusedSimpArgs false
abbrev TT : TypeId := 272
abbrev TSl : TypeId := 274
/-- What waits of a flow: packets, bytes, and how many bytes may. -/
abbrev Own := Nat × Nat × Nat
/-- A slot's cells. -/
def KS : Option (Nat × Own) → List Value
 | none => [.int .u32 0, .bool false, .int .i64 0, .int .u64 0, .int .u64 0]
 | some y => [.int .u32 (y.1 : Nat), .bool true, .int .i64 (y.2.1 : Nat), .int .u64 (y.2.2.1 : Nat), .int .u64 (y.2.2.2 : Nat)]
theorem ks_len (o : Option (Nat × Own)) : (KS o).length = 5 := by cases o <;> rfl
def rows (s : Sl Own) (N : Nat) : List Value := slotL (fun j => KS (s j)) N
theorem rows_len (s : Sl Own) (N : Nat) : (rows s N).length = N * 5 := slotL_len (fun _ => ks_len _) N
theorem rows_at {s : Sl Own} {N j r : Nat} (hj : j < N) (hr : r < 5) : (rows s N)[j * 5 + r]? = (KS (s j))[r]? := slotL_at (fun _ => ks_len _) hj hr
theorem rows_put {s : Sl Own} {N p : Nat} (hp : p < N) (y : Nat × Own) : setL (rows s N) (p * 5) (KS (some y)) = rows (put s p y) N := by
 have h := slotL_set (f := fun j => KS (s j)) (W := 5) (N := N) (p := p) (o := 0) (vs := KS (some y)) (fun _ => ks_len _) hp (by rw [ks_len]; exact Nat.le_refl _)
 rw [Nat.add_zero] at h
 unfold rows
 rw [h]
 refine slotL_congr fun j _ => ?_
 unfold updF put
 by_cases e : j = p
 · rw [if_pos e, if_pos e]
   cases hs : s p with
   | none => rfl
   | some z => rfl
 · rw [if_neg e, if_neg e]
/-- The thing of a slot alone, written. -/
theorem rows_set {s : Sl Own} {N p id : Nat} {x : Own} (hp : p < N) (hs : s p = some (id, x)) (y : Own) : setL (rows s N) (p * 5 + 2) [.int .i64 (y.1 : Nat), .int .u64 (y.2.1 : Nat), .int .u64 (y.2.2 : Nat)] = rows (put s p (id, y)) N := by
 have h := slotL_set (f := fun j => KS (s j)) (W := 5) (N := N) (p := p) (o := 2) (vs := [.int .i64 (y.1 : Nat), .int .u64 (y.2.1 : Nat), .int .u64 (y.2.2 : Nat)]) (fun _ => ks_len _) hp (by simp)
 unfold rows
 rw [h]
 refine slotL_congr fun j _ => ?_
 unfold updF put
 by_cases e : j = p
 · rw [if_pos e, if_pos e, hs]; rfl
 · rw [if_neg e, if_neg e]
/-- A number's own place, of N. -/
def hom (N id : Nat) : Nat := (id * 2654435769 % 4294967296 / 128) % N
/-- A table in memory: block t, its slots at block g. -/
structure TIn (w : World) (t g c N n room : Nat) (s : Sl Own) : Prop where
 blk : Blk w t #[.slice (some ⟨g, 0, none⟩) N c, .int .i64 (n : Nat), .int .i64 (room : Nat)] TT
 row : w.ownsRow 0 TSl 5 (.slice (some ⟨g, 0, none⟩) N c) N (rows s N)
 ok : Ok s N (hom N)
 pw : ∃ e, N = 2 ^ (e + 3) ∧ e ≤ 4
 tg : ¬ t = g
theorem TIn.big {w : World} {t g c N n room : Nat} {s : Sl Own} (h : TIn w t g c N n room s) : 8 ≤ N ∧ N ≤ 128 := by
 obtain ⟨e, h1, h2⟩ := h.pw
 have h3 := Nat.pow_le_pow_right (show 0 < 2 by decide) (show 3 ≤ e + 3 by omega)
 have h4 := Nat.pow_le_pow_right (show 0 < 2 by decide) (show e + 3 ≤ 7 by omega)
 omega
theorem TIn.kept {w w' : World} {t g c N n room : Nat} {s : Sl Own} (h : TIn w t g c N n room s) {S : Nat → Prop} (hu : Upd S w w') (ht : ¬ S t) (hg : ¬ S g) : TIn w' t g c N n room s :=
 ⟨h.blk.kept hu ht, ownsRow_upd h.row hu (fun k hk => by have := Option.some.inj hk; rw [← this]; exact hg), h.ok, h.pw, h.tg⟩
theorem TIn.old {w w' : World} {t g c N n room : Nat} {s : Sl Own} (h : TIn w t g c N n room s) (hu : Upd Nowhere w w') : TIn w' t g c N n room s :=
 ⟨h.blk.kept hu id, ownsRow_upd h.row hu (fun _ _ h => h), h.ok, h.pw, h.tg⟩
/-- The cells of a slot. -/
theorem TIn.cells {w : World} {t g c N n room : Nat} {s : Sl Own} (h : TIn w t g c N n room s) {j r : Nat} {v : Value} (hj : j < N) (hv : (KS (s j))[r]? = some v) : w.cell? ⟨g, j * 5 + r, none⟩ = some v ∧ w.frozen? ⟨g, j * 5 + r, none⟩ = false := by
 have hr : r < 5 := by
  rcases Nat.lt_or_ge r 5 with h' | h'
  · exact h'
  · rw [List.getElem?_eq_none (by rw [ks_len]; exact h')] at hv; cases hv
 exact rowW_cell (o := fun k => k = g) ⟨h.row, fun k => ⟨fun e => by rw [e]; rfl, fun e => by have := Option.some.inj e; exact this.symm⟩⟩ (by rw [rows_at hj hr]; exact hv)
theorem hom_cast (id A B C : Nat) : ((id : Int) * (A : Int) % (B : Int) / (C : Int)) = ((id * A % B / C : Nat) : Int) := by push_cast; rfl
theorem wraps_i64_62 (n : Int) (h₀ : 0 ≤ n) (h₁ : n < 2 ^ 62) : IntKind.i64.wrap n = n := by rw [IntKind.wrap_i64]; omega
/-- The mask of a power of two. -/
theorem mask_pw {N : Nat} (hp : ∃ e, N = 2 ^ (e + 3) ∧ e ≤ 4) {a : Nat} (ha : a < 4294967296) : bits .and .i64 (a : Int) ((N : Int) - 1) = ((a % N : Nat) : Int) := by
 obtain ⟨e, rfl, he⟩ := hp
 have h := bits_mask .i64 62 (by decide) wraps_i64_62 (e + 3) (by omega) (a : Int) (by omega) (by omega)
 push_cast
 exact h
/-- Where a search ends. -/
theorem TIn.ends {w : World} {t g c N n room : Nat} {s : Sl Own} (h : TIn w t g c N n room s) (id : Nat) : ∃ M D F, hom N id = M ∧ M < N ∧ D < N ∧ (M + D) % N = F ∧ stop s id F ∧ (∀ e, e < D → ¬ stop s id ((M + e) % N)) ∧ fnd s N (hom N) id = F := by
 obtain ⟨D, hD1, hD2, hD3, hD4⟩ := h.ok.ends id
 exact ⟨hom N id, D, _, rfl, h.ok.hm id, hD1, rfl, hD2, hD3, hD4⟩
section
variable {w : World} {t g c N n room : Nat} {s : Sl Own}
theorem made_any (h : TIn w t g c N n room s) : Calls Tryz.prog 94 #[.pointer (some ⟨t, 0, none⟩)] w fun e w' => e = .returned (.bool true) ∧ w = w' := by
 have k0 : w.cell? ⟨t, 0, none⟩ = some (.slice (some ⟨g, 0, none⟩) N c) := h.blk.cellAt rfl
 have hN := h.big
 have d0 : decide ((N : Int) > 0) = true := decide_eq_true (by omega)
 have d1 : decide (0 < N) = true := decide_eq_true (by omega)
 have d2 : decide ((0 : Int) < N) = true := decide_eq_true (by omega)
 clear h hN
 go_enter Tryz.func94, Tryz.ntmps94
 go_wp2_with fail
 go_ret
 exact ⟨rfl, rfl⟩
theorem home_any (h : TIn w t g c N n room s) {id : Nat} : Calls Tryz.prog 134 #[.pointer (some ⟨t, 0, none⟩), .int .u32 id] w fun e w' => e = .returned (.int .i64 (hom N id : Nat)) ∧ w = w' := by
 have k0 : w.cell? ⟨t, 0, none⟩ = some (.slice (some ⟨g, 0, none⟩) N c) := h.blk.cellAt rfl
 have hN := h.big
 have e0 : IntKind.u32.wrap ((id : Int) * 2654435769) = ((id * 2654435769 % 4294967296 : Nat) : Int) := by rw [IntKind.wrap_u32]; omega
 have e1 : bits .and .i64 ((id : Int) * 2654435769 % 4294967296 / 128) ((N : Int) - 1) = ((hom N id : Nat) : Int) := by
  have := mask_pw h.pw (a := id * 2654435769 % 4294967296 / 128) (by omega)
  rw [show (id : Int) * 2654435769 % 4294967296 / 128 = ((id * 2654435769 % 4294967296 / 128 : Nat) : Int) from hom_cast id 2654435769 4294967296 128]
  exact this
 clear h
 go_enter Tryz.func134, Tryz.ntmps134
 go_wp2_with fail
 go_ret
 exact ⟨rfl, rfl⟩
end
end Go.Proofs.YtpgpjjkeginbbaaGreatDoor.Tab
namespace Go.Proofs.YtpgpjjkeginbbaaGreatDoor.Tab
open Go.RowKit Go.Proofs BigFrame
set_option maxHeartbeats 4000000
set_option maxRecDepth 1000000
set_option linter.unusedSimpArgs false
section
variable {w : World} {t g c N n room : Nat} {s : Sl Own}
theorem find_any (h : TIn w t g c N n room s) {id : Nat} : Calls Tryz.prog 95 #[.pointer (some ⟨t, 0, none⟩), .int .u32 id] w fun e w' => e = .returned (.int .i64 (fnd s N (hom N) id : Nat)) ∧ w = w' := by
 have k0 : w.cell? ⟨t, 0, none⟩ = some (.slice (some ⟨g, 0, none⟩) N c) := h.blk.cellAt rfl
 have hN := h.big
 obtain ⟨M, D, F, hM0, hM, hD1, hF, hD2, hD3, hD4⟩ := h.ends id
 have hH := home_any h (id := id)
 rw [hM0] at hH
 rw [hD4]
 clear hD4 hM0
 have HH := Lib.hid hH
 have HF := Lib.hid hF
 have HT := Lib.hid h
 have H2 := Lib.hid hD2
 have H3 := Lib.hid hD3
 have H4 := Lib.hid hM
 clear h hD2 hD3 hF hM hH
 go_enter Tryz.func95, Tryz.ntmps95
 go_wp2_with fail
 refine (HH.out).mono ?_
 rintro e w' ⟨rfl, rfl⟩
 go_wp2_with fail
 go_loopg [5] (D + 1) (fun gk v5 wr => ∃ d j, D - d < gk ∧ d ≤ D ∧ v5 = .int .i64 (j : Nat) ∧ Hid ((M + d) % N = j) ∧ wr = w)
 case atStart => exact ⟨0, M, by omega, Nat.zero_le _, rfl, Lib.hid (Nat.mod_eq_of_lt H4.out), rfl⟩
 case round =>
  obtain ⟨d, j, hgk, hd, rfl, HJ, rfl⟩ := hrel
  have HGK := Lib.hid hgk
  have hj : j < N := by rw [← HJ.out]; exact Nat.mod_lt _ (by omega)
  clear hgk
  rcases Nat.lt_or_ge d D with hlt | hge
  · have hns := H3.out d hlt
    rw [HJ.out] at hns
    unfold stop at hns
    obtain ⟨⟨k, x⟩, hs⟩ : ∃ y, s j = some y := by
     cases hs : s j with
     | none => rw [hs] at hns; exact absurd trivial hns
     | some y => exact ⟨y, rfl⟩
    rw [hs] at hns
    have hk : ¬ k = id := hns
    have c0 : wr.cell? ⟨g, j * 5, none⟩ = some (.int .u32 (k : Nat)) := (HT.out.cells (r := 0) hj (by rw [hs]; rfl)).1
    have c1 : wr.cell? ⟨g, j * 5 + 1, none⟩ = some (.bool true) := (HT.out.cells (r := 1) hj (by rw [hs]; rfl)).1
    have b0 : ((k : Int) != (id : Int)) = true := by simp; omega
    have b1 : decide (¬ (k : Int) = id) = true := by simp; omega
    have b2 : (k != id) = true := by simp; omega
    have e1 : bits .and .i64 ((j : Int) + 1) ((N : Int) - 1) = (((j + 1) % N : Nat) : Int) := mask_pw HT.out.pw (a := j + 1) (by omega)
    have hjI : (j : Int) < N := by omega
    clear hns hs hk
    go_wp2_with fail
    go_roundg (D - d)
    case rel => exact ⟨d + 1, (j + 1) % N, by omega, by omega, rfl, Lib.hid (by rw [← HJ.out, Nat.mod_add_mod, Nat.add_assoc]), rfl⟩
    case measure => have := HGK.out; omega
  · obtain rfl : d = D := by omega
    have hst := H2.out
    obtain rfl : F = j := by rw [← HJ.out, HF.out]
    unfold stop at hst
    have hjI : (F : Int) < N := by omega
    cases hs : s F with
    | none =>
      have c0 : wr.cell? ⟨g, F * 5, none⟩ = some (.int .u32 0) := (HT.out.cells (r := 0) hj (by rw [hs]; rfl)).1
      have c1 : wr.cell? ⟨g, F * 5 + 1, none⟩ = some (.bool false) := (HT.out.cells (r := 1) hj (by rw [hs]; rfl)).1
      clear hst hs
      go_wp2_with fail
      go_ret
      exact ⟨rfl, rfl⟩
    | some y =>
      obtain ⟨k, x⟩ := y
      rw [hs] at hst
      obtain rfl : k = id := hst
      have c0 : wr.cell? ⟨g, F * 5, none⟩ = some (.int .u32 (k : Nat)) := (HT.out.cells (r := 0) hj (by rw [hs]; rfl)).1
      have c1 : wr.cell? ⟨g, F * 5 + 1, none⟩ = some (.bool true) := (HT.out.cells (r := 1) hj (by rw [hs]; rfl)).1
      have b0 : ((k : Int) != (k : Int)) = false := by simp
      clear hs
      go_wp2_with fail
      go_ret
      exact ⟨rfl, rfl⟩
end
end Go.Proofs.YtpgpjjkeginbbaaGreatDoor.Tab
namespace Go.Proofs.YtpgpjjkeginbbaaGreatDoor.Tab
open Go.RowKit Go.Proofs BigFrame
open HeapW (putL setL putL_blk putL_upd setL_length setL_take)
set_option maxHeartbeats 4000000
set_option maxRecDepth 1000000
set_option linter.unusedSimpArgs false
abbrev TO : TypeId := 182
abbrev VO (x : Own) : Value := .agg #[.int .i64 (x.1 : Nat), .int .u64 (x.2.1 : Nat), .int .u64 (x.2.2 : Nat)]
abbrev zO : Array Value := #[.int .i64 0, .int .u64 0, .int .u64 0]
/-- Some cells of a row, written. -/
theorem own_putL {w : World} {E : TypeId} {W g c n o : Nat} {xs vs : List Value} (h : w.ownsRow 0 E W (.slice (some ⟨g, 0, none⟩) n c) n xs) : (putL w g o vs).ownsRow 0 E W (.slice (some ⟨g, 0, none⟩) n c) n (setL xs o vs) := by
 rcases h.2 with ⟨h0, _⟩ | ⟨g', c', cur, he, hb, hB, h1, h2, h3, h4⟩
 · cases h0
 · cases he
   obtain ⟨cur', b1, b2, b3⟩ := putL_blk vs (o := o) (show Blk w g cur E from hB)
   exact ⟨by rw [setL_length]; exact h.1, .inr ⟨g, c, cur', rfl, hb, b1, h1, h2, by rw [b2]; exact h3, by rw [b3, setL_take, h4]⟩⟩
theorem TIn.set_ {w : World} {t g c N n room p id : Nat} {s : Sl Own} {x : Own} (h : TIn w t g c N n room s) (hp : p < N) (hs : s p = some (id, x)) (y : Own) :
 TIn (putL w g (p * 5 + 2) [.int .i64 (y.1 : Nat), .int .u64 (y.2.1 : Nat), .int .u64 (y.2.2 : Nat)]) t g c N n room (put s p (id, y)) := by
 refine ⟨h.blk.kept (putL_upd _ (Upd.refl (fun k => k = g) w) (fun _ => rfl)) h.tg, ?_, h.ok.set hs, h.pw, h.tg⟩
 have := own_putL (o := p * 5 + 2) (vs := [.int .i64 (y.1 : Nat), .int .u64 (y.2.1 : Nat), .int .u64 (y.2.2 : Nat)]) h.row
 rw [rows_set hp hs y] at this
 exact this
/-- A slot that is used. -/
theorem TIn.slot {w : World} {t g c N n room F k x0 x1 x2 : Nat} {s : Sl Own} (h : TIn w t g c N n room s) (hF : F < N) (hs : s F = some (k, x0, x1, x2)) :
 w.cell? ⟨g, F * 5, none⟩ = some (.int .u32 (k : Nat)) ∧ w.cell? ⟨g, F * 5 + 1, none⟩ = some (.bool true) ∧ w.cell? ⟨g, F * 5 + 2, none⟩ = some (.int .i64 (x0 : Nat)) ∧ w.cell? ⟨g, F * 5 + 3, none⟩ = some (.int .u64 (x1 : Nat)) ∧ w.cell? ⟨g, F * 5 + 4, none⟩ = some (.int .u64 (x2 : Nat)) :=
 ⟨(h.cells (r := 0) hF (by rw [hs]; rfl)).1, (h.cells (r := 1) hF (by rw [hs]; rfl)).1, (h.cells (r := 2) hF (by rw [hs]; rfl)).1, (h.cells (r := 3) hF (by rw [hs]; rfl)).1, (h.cells (r := 4) hF (by rw [hs]; rfl)).1⟩
theorem TIn.free {w : World} {t g c N n room : Nat} {s : Sl Own} (h : TIn w t g c N n room s) : ∀ k, w.frozen? ⟨g, k, none⟩ = false := fun k => by
 obtain ⟨cur, hb, _⟩ := Blk.own h.row
 exact hb.free k
/-- A slot that is not. -/
theorem TIn.gap {w : World} {t g c N n room F : Nat} {s : Sl Own} (h : TIn w t g c N n room s) (hF : F < N) (hs : s F = none) :
 w.cell? ⟨g, F * 5, none⟩ = some (.int .u32 0) ∧ w.cell? ⟨g, F * 5 + 1, none⟩ = some (.bool false) ∧ w.cell? ⟨g, F * 5 + 2, none⟩ = some (.int .i64 0) ∧ w.cell? ⟨g, F * 5 + 3, none⟩ = some (.int .u64 0) ∧ w.cell? ⟨g, F * 5 + 4, none⟩ = some (.int .u64 0) :=
 ⟨(h.cells (r := 0) hF (by rw [hs]; rfl)).1, (h.cells (r := 1) hF (by rw [hs]; rfl)).1, (h.cells (r := 2) hF (by rw [hs]; rfl)).1, (h.cells (r := 3) hF (by rw [hs]; rfl)).1, (h.cells (r := 4) hF (by rw [hs]; rfl)).1⟩
section
variable {w : World} {t g c N n room id : Nat} {s : Sl Own}
theorem get_some {F x0 x1 x2 : Nat} (h : TIn w t g c N n room s) (hF : fnd s N (hom N) id = F) (hs : s F = some (id, x0, x1, x2)) : Calls Tryz.prog 111 #[.pointer (some ⟨t, 0, none⟩), .int .u32 id] w fun e w' => e = .returned (.tuple #[VO (x0, x1, x2), .bool true]) ∧ Upd Nowhere w w' := by
 have hU : Upd Nowhere w ((w.alloc (.cells zO TO)).alloc (.cells zO TO)) := ((Upd.refl _ _).alloc _).alloc _
 have hB : Blk ((w.alloc (.cells zO TO)).alloc (.cells zO TO)) w.heap.size zO TO := (Blk.new _ _ _).alloc _
 have HM := fun u (hu : Upd Nowhere w u) => Lib.hid (made_any (h.old hu))
 have HD := fun u (hu : Upd Nowhere w u) => Lib.hid (find_any (h.old hu) (id := id))
 rw [hF] at HD
 have hFN : F < N := by rw [← hF]; exact h.ok.lt id
 have hh := h.old hU
 have k0 : ((w.alloc (.cells zO TO)).alloc (.cells zO TO)).cell? ⟨t, 0, none⟩ = some (.slice (some ⟨g, 0, none⟩) N c) := hh.blk.cellAt rfl
 obtain ⟨s0, s1, s2, s3, s4⟩ := hh.slot hFN hs
 have hFI : (F : Int) < N := by omega
 clear h hF hs hh
 go_enter Tryz.func111, Tryz.ntmps111
 go_wp2_with fail
 generalize (w.alloc (.cells zO TO)).alloc (.cells zO TO) = w2 at *
 obtain ⟨c0, c1, c2, z0, z1, z2⟩ := cells3 hB
 go_quiet (first | (go_at_call 94; with_reducible exact quiet_same (HM _ (hU.drewN _)).out) | (go_at_call 95; with_reducible exact quiet_same (HD _ (hU.drewN _)).out))
 go_upto_region 4 with fail
 refine wp_region_tail 10 (by kernel_rfl) (by kernel_rfl) ?_
 simp only [List.take_succ_cons, List.take_zero, List.drop_succ_cons, List.drop_zero]
 repeat (go_big_quiet_step ((go_at_call 95; exact quiet_more_same (HD _ (hU.drewN _)).out)))
 refine wpQuiet_nil ?_
 rintro _ ⟨nq2, rfl⟩
 go_wp2_with fail
 refine Stage.out ?_
 go_wp2_with fail
 exact bodyPost_ret (v := .tuple #[.agg #[.int .i64 x0, .int .u64 x1, .int .u64 x2], .bool true]) (by simp [results, Tryz.results111, go_sem, c0, c1, c2]) rfl ⟨rfl, (by repeat (first | with_reducible exact hU | with_reducible refine Upd.drewN ?_ _ | with_reducible refine Upd.drew ?_ | with_reducible refine Upd.setNew ?_ (Nat.le_refl _) _))⟩
theorem get_none {F : Nat} (h : TIn w t g c N n room s) (hF : fnd s N (hom N) id = F) (hs : s F = none) : Calls Tryz.prog 111 #[.pointer (some ⟨t, 0, none⟩), .int .u32 id] w fun e w' => e = .returned (.tuple #[VO (0, 0, 0), .bool false]) ∧ Upd Nowhere w w' := by
 have hU : Upd Nowhere w ((w.alloc (.cells zO TO)).alloc (.cells zO TO)) := ((Upd.refl _ _).alloc _).alloc _
 have hB : Blk ((w.alloc (.cells zO TO)).alloc (.cells zO TO)) w.heap.size zO TO := (Blk.new _ _ _).alloc _
 have hB2 : Blk ((w.alloc (.cells zO TO)).alloc (.cells zO TO)) (w.heap.size + 1) zO TO := Blk.new2 _ _ _ _
 have HM := fun u (hu : Upd Nowhere w u) => Lib.hid (made_any (h.old hu))
 have HD := fun u (hu : Upd Nowhere w u) => Lib.hid (find_any (h.old hu) (id := id))
 rw [hF] at HD
 have hFN : F < N := by rw [← hF]; exact h.ok.lt id
 have hh := h.old hU
 have k0 : ((w.alloc (.cells zO TO)).alloc (.cells zO TO)).cell? ⟨t, 0, none⟩ = some (.slice (some ⟨g, 0, none⟩) N c) := hh.blk.cellAt rfl
 obtain ⟨s0, s1, s2, s3, s4⟩ := hh.gap hFN hs
 have hFI : (F : Int) < N := by omega
 clear h hF hs hh
 go_enter Tryz.func111, Tryz.ntmps111
 go_wp2_with fail
 generalize (w.alloc (.cells zO TO)).alloc (.cells zO TO) = w2 at *
 obtain ⟨c0, c1, c2, z0, z1, z2⟩ := cells3 hB
 obtain ⟨d0, d1, d2, _, _, _⟩ := cells3 hB2
 go_quiet (first | (go_at_call 94; with_reducible exact quiet_same (HM _ (hU.drewN _)).out) | (go_at_call 95; with_reducible exact quiet_same (HD _ (hU.drewN _)).out))
 go_wp2_with fail
 exact bodyPost_ret (v := .tuple #[.agg #[.int .i64 0, .int .u64 0, .int .u64 0], .bool false]) (by simp [results, Tryz.results111, go_sem, c0, c1, c2]) rfl ⟨rfl, (by repeat (first | with_reducible exact hU | with_reducible refine Upd.drewN ?_ _ | with_reducible refine Upd.drew ?_ | with_reducible refine Upd.setNew ?_ (Nat.le_refl _) _))⟩
/-- Set, of a number that is there. -/
theorem set_some {F x0 x1 x2 y0 y1 y2 : Nat} (h : TIn w t g c N n room s) (hF : fnd s N (hom N) id = F) (hs : s F = some (id, x0, x1, x2)) : Calls Tryz.prog 113 #[.pointer (some ⟨t, 0, none⟩), .int .u32 id, VO (y0, y1, y2)] w fun e w' => e = .returned (.bool true) ∧ TIn w' t g c N n room (put s F (id, y0, y1, y2)) ∧ Upd (fun k => k = g) w w' := by
 have hU : Upd Nowhere w (w.alloc (.cells #[.int .i64 y0, .int .u64 y1, .int .u64 y2] TO)) := (Upd.refl _ _).alloc _
 have hB : Blk (w.alloc (.cells #[.int .i64 y0, .int .u64 y1, .int .u64 y2] TO)) w.heap.size #[.int .i64 y0, .int .u64 y1, .int .u64 y2] TO := Blk.new _ _ _
 have HM := fun u (hu : Upd Nowhere w u) => Lib.hid (made_any (h.old hu))
 have HD := fun u (hu : Upd Nowhere w u) => Lib.hid (find_any (h.old hu) (id := id))
 rw [hF] at HD
 have hFN : F < N := by rw [← hF]; exact h.ok.lt id
 have hh := h.old hU
 have k0 : (w.alloc (.cells #[.int .i64 y0, .int .u64 y1, .int .u64 y2] TO)).cell? ⟨t, 0, none⟩ = some (.slice (some ⟨g, 0, none⟩) N c) := hh.blk.cellAt rfl
 obtain ⟨s0, s1, s2, s3, s4⟩ := hh.slot hFN hs
 have hFI : (F : Int) < N := by omega
 have z2 := hh.free (F * 5 + 2)
 have z3 := hh.free (F * 5 + 3)
 have z4 := hh.free (F * 5 + 4)
 have HFIN := fun k => Lib.hid ((hh.old ((Upd.refl _ _).drewN k)).set_ hFN hs (y0, y1, y2))
 clear h hF hs hh
 go_enter Tryz.func113, Tryz.ntmps113
 go_wp2_with fail
 generalize w.alloc (.cells #[.int .i64 y0, .int .u64 y1, .int .u64 y2] TO) = w2 at *
 obtain ⟨c0, c1, c2, _, _, _⟩ := cells3 hB
 go_quiet (first | (go_at_call 94; with_reducible exact quiet_same (HM _ (hU.drewN _)).out) | (go_at_call 95; with_reducible exact quiet_same (HD _ (hU.drewN _)).out))
 go_upto_region 3 with fail
 refine wp_region_tail 10 (by kernel_rfl) (by kernel_rfl) ?_
 simp only [List.take_succ_cons, List.take_zero, List.drop_succ_cons, List.drop_zero]
 repeat (go_big_quiet_step ((go_at_call 95; exact quiet_more_same (HD _ (hU.drewN _)).out)))
 refine wpQuiet_nil ?_
 rintro _ ⟨nq2, rfl⟩
 go_wp2_with fail
 refine Stage.out ?_
 go_wp2_with fail
 go_ret
 exact ⟨rfl, (HFIN _).out, putL_upd [.int .i64 y0, .int .u64 y1, .int .u64 y2] (S := fun k => k = g) (g := g) (o := F * 5 + 2) ((hU.drewN _).any _) (fun _ => rfl)⟩
end
end Go.Proofs.YtpgpjjkeginbbaaGreatDoor.Tab
namespace Go.Proofs.YtpgpjjkeginbbaaGreatDoor.Tab
open Go.RowKit Go.Proofs BigFrame
open HeapW (putL setL putL_blk putL_upd setL_length setL_take)
set_option maxHeartbeats 8000000
set_option maxRecDepth 1000000
set_option linter.unusedSimpArgs false
abbrev ZS : Value := .agg #[.int .u32 0, .bool false, .int .i64 0, .int .u64 0, .int .u64 0]
theorem infoS : (Tryz.prog.info? TSl).map (fun i => (i.zero, i.size, i.bytes)) = some (some ZS, 5, 32) := by kernel_rfl
/-- Slots that are new. -/
theorem made_rows (N : Nat) : (madeCells ZS.cells (N * 5)).toList = rows (fun _ => none) N := by
 have hz : ZS.cells = #[.int .u32 0, .bool false, .int .i64 0, .int .u64 0, .int .u64 0] := by kernel_rfl
 rw [hz]
 refine List.ext_getElem? fun i => ?_
 rcases Nat.lt_or_ge i (N * 5) with h | h
 · have e : i = i / 5 * 5 + i % 5 := by omega
   have h1 := rows_at (s := fun _ => none) (N := N) (j := i / 5) (r := i % 5) (by omega) (by omega)
   rw [← e] at h1
   rw [h1]
   have h2 : (madeCells #[.int .u32 0, .bool false, .int .i64 0, .int .u64 0, .int .u64 0] (N * 5)).toList[i]? = some (#[Value.int .u32 0, .bool false, .int .i64 0, .int .u64 0, .int .u64 0][i % 5]!) := by simp [madeCells, h]
   rw [h2]
   obtain e | e | e | e | e : i % 5 = 0 ∨ i % 5 = 1 ∨ i % 5 = 2 ∨ i % 5 = 3 ∨ i % 5 = 4 := by omega
   all_goals rw [e]; rfl
 · rw [List.getElem?_eq_none (by simpa [madeCells] using h), List.getElem?_eq_none (by rw [rows_len]; exact h)]
theorem hom_lt {N : Nat} (h : 0 < N) (id : Nat) : hom N id < N := Nat.mod_lt _ h
theorem new_ok (w : World) (room : Nat) (h1 : 1 ≤ room) (h2 : room ≤ 64) : Calls Tryz.prog 55 #[.int .i64 room] w fun e w' => ∃ t g c, e = .returned (.tuple #[.pointer (some ⟨t, 0, none⟩), .int .i64 0]) ∧ TIn w' t g c 8 0 room (fun _ => none) ∧ w.heap.size ≤ t ∧ w.heap.size ≤ g ∧ Upd Nowhere w w' := by
 obtain ⟨i0, hi, hz0, hz1, hz2⟩ := info_parts infoS
 have d1 : decide ((room : Int) < 1) = false := decide_eq_false (by omega)
 have d2 : decide ((room : Int) > 4096) = false := decide_eq_false (by omega)
 go_enter Tryz.func55, Tryz.ntmps55
 go_wp2_with (refine wpList_make_full _ rfl _ _ 270 rfl w.heap.size TSl i0 ZS 5 Tryz.underlying270 hi hz0 hz1 .i64 .i64 _ _ 8 rfl rfl rfl rfl (by rw [hz2]; omega) (by unfold maxLen; omega) (Nat.le_refl _) ?_; intro w1 hown hgr)
 have hu1 : Upd Nowhere w w1 := (Upd.refl Nowhere w).grown hgr (fun k _ h => by cases h)
 have hpw : ∃ e, 8 = 2 ^ (e + 3) ∧ e ≤ 4 := ⟨0, rfl, by omega⟩
 rw [made_rows 8] at hown
 obtain ⟨cur, hc, _, _, _, _⟩ := Blk.own hown
 have hlt := hc.lt
 have hT : TIn (w1.alloc (.cells #[.slice (some ⟨w.heap.size, 0, none⟩) (8 : Nat) 8, .int .i64 (0 : Nat), .int .i64 (room : Nat)] TT)) w1.heap.size w.heap.size 8 8 0 room (fun _ => none) :=
  ⟨Blk.new _ _ _, ownsRow_upd (ownsRow_base hown (Nat.zero_le _)) ((Upd.refl Nowhere w1).alloc _) (fun _ _ h => h), ok_empty (by omega) (hom_lt (by omega)), hpw, by omega⟩
 clear hown hgr hc
 go_ret2
 exact ⟨_, _, _, rfl, hT, by omega, Nat.le_refl _, hu1.alloc _⟩
end Go.Proofs.YtpgpjjkeginbbaaGreatDoor.Tab
namespace Go.Proofs.YtpgpjjkeginbbaaGreatDoor.Tab
open Go.RowKit Go.Proofs BigFrame
open HeapW (putL setL putL_blk putL_upd setL_length setL_take)
set_option maxHeartbeats 8000000
set_option maxRecDepth 1000000
set_option linter.unusedSimpArgs false
theorem TIn.put_ {w : World} {t g c N n room p id : Nat} {s : Sl Own} (h : TIn w t g c N n room s) (hp : p < N) (x : Own) (hok : Ok (put s p (id, x)) N (hom N)) :
 TIn (putL w g (p * 5) (KS (some (id, x)))) t g c N n room (put s p (id, x)) := by
 refine ⟨h.blk.kept (putL_upd _ (Upd.refl (fun k => k = g) w) (fun _ => rfl)) h.tg, ?_, hok, h.pw, h.tg⟩
 have := own_putL (o := p * 5) (vs := KS (some (id, x))) h.row
 rw [rows_put hp (id, x)] at this
 exact this
theorem pw_more {N : Nat} (h : ∃ e, N = 2 ^ (e + 3) ∧ e ≤ 4) (hN : N ≤ 64) : ∃ e, 2 * N = 2 ^ (e + 3) ∧ e ≤ 4 := by
 obtain ⟨e, rfl, he⟩ := h
 obtain rfl | rfl | rfl | rfl | rfl : e = 0 ∨ e = 1 ∨ e = 2 ∨ e = 3 ∨ e = 4 := by omega
 · exact ⟨1, rfl, by omega⟩
 · exact ⟨2, rfl, by omega⟩
 · exact ⟨3, rfl, by omega⟩
 · exact ⟨4, rfl, by omega⟩
 · simp at hN
theorem moved_none {s : Sl Own} {M : Nat} (hM : 0 < M) : Moved s 0 (fun _ => none) M (hom M) := by
 have hc : ∀ k, cnt (fun _ => (none : Option (Nat × Own))) k = 0 := fun k => by
  induction k with
  | zero => rfl
  | succ k ih => unfold cnt; rw [ih]; rfl
 exact ⟨ok_empty hM (hom_lt hM), hc M, fun id x => ⟨fun ⟨_, _, e⟩ => (nomatch e), fun ⟨j, hj, _⟩ => absurd hj (Nat.not_lt_zero _)⟩⟩
theorem grow_any {w : World} {t g c N n room : Nat} {s : Sl Own} (h : TIn w t g c N n room s) (hN : N ≤ 64) : Calls Tryz.prog 96 #[.pointer (some ⟨t, 0, none⟩)] w fun e w' => e = .returned (.tuple #[]) ∧
 ∃ g' c' s', TIn w' t g' c' (2 * N) n room s' ∧ Moved s N s' (2 * N) (hom (2 * N)) ∧ w.heap.size ≤ g' ∧ Upd (fun q => q = t) w w' := by
 obtain ⟨i0, hi, hz0, hz1, hz2⟩ := info_parts infoS
 have k0 : w.cell? ⟨t, 0, none⟩ = some (.slice (some ⟨g, 0, none⟩) N c) := h.blk.cellAt rfl
 have z0 := h.blk.free 0
 have hNb := h.big
 have hpw := pw_more h.pw hN
 obtain ⟨M, hM⟩ : ∃ M, 2 * N = M := ⟨_, rfl⟩
 rw [hM] at hpw ⊢
 have hMN : N < M := by omega
 have hMb : M ≤ 128 := by omega
 have HM := Lib.hid hM
 have HT := Lib.hid h
 have HPW := Lib.hid hpw
 clear hM hpw h
 go_enter Tryz.func96, Tryz.ntmps96
 go_wp2_with (refine wpList_make_full _ rfl _ _ 270 rfl w.heap.size TSl i0 ZS 5 Tryz.underlying270 hi hz0 hz1 .i64 .i64 _ _ M rfl rfl (by have := HM.out; omega) (by have := HM.out; omega) (by rw [hz2]; omega) (by unfold maxLen; omega) (Nat.le_refl _) ?_; intro w1 hown hgr; have hu1 : Upd Nowhere w w1 := (Upd.refl Nowhere w).grown hgr (fun k _ h => by cases h); have z1 : w1.frozen? ⟨t, 0, none⟩ = false := (HT.out.old hu1).blk.free 0; have e1 : w1.cell? ⟨t, 0, none⟩ = some (.slice (some ⟨g, 0, none⟩) N c) := (HT.out.old hu1).blk.cellAt rfl)
 rw [made_rows M] at hown
 obtain ⟨cur, hc, _, _, _, _⟩ := Blk.own hown
 have hlt := hc.lt
 have h1 := HT.out.old hu1
 have htw := HT.out.blk.lt
 have hT : TIn (w1.setCell ⟨t, 0, none⟩ (.slice (some ⟨w.heap.size, 0, none⟩) M M)) t w.heap.size M M n room (fun _ => none) :=
  ⟨h1.blk.set 0 _, ownsRow_upd (ownsRow_base hown (Nat.zero_le _)) ((Upd.refl (fun q => q = t) w1).setCell (a := ⟨t, 0, none⟩) (fun _ => rfl) _) (fun q hq e => by have := Option.some.inj hq; dsimp only at this; omega), ok_empty (by omega) (hom_lt (by omega)), HPW.out, by omega⟩
 have hUT : Upd (fun q => q = t) w (w1.setCell ⟨t, 0, none⟩ (.slice (some ⟨w.heap.size, 0, none⟩) M M)) := Upd.setCell (S := fun q => q = t) (a := ⟨t, 0, none⟩) (hu1.any _) (fun _ => rfl) _
 have hT2 := Lib.hid hT
 have hUT2 := Lib.hid hUT
 obtain ⟨g2, hg2⟩ : ∃ g2, w.heap.size = g2 := ⟨_, rfl⟩
 have HG2 := Lib.hid hg2
 clear hown hgr hc hT hUT k0 z0 h1 hu1
 simp only [hg2] at hlt htw hT2 hUT2 ⊢
 clear hg2
 go_loopw [4, 18] (fun _ v wr => ∃ (k : Nat) (s2 : Sl Own), v = .int .i64 k ∧ k ≤ N ∧ TIn wr t g2 M M n room s2 ∧ Hid (Moved s k s2 M (hom M)) ∧ Upd (fun q => q = t) w wr) (fun _ v _ => N - (intOf v).toNat)
 case atStart => exact ⟨0, fun _ => none, rfl, Nat.zero_le _, hT2.out, Lib.hid (moved_none (by omega)), hUT2.out⟩
 case round =>
  obtain ⟨k, s2, rfl, hk, h2, HMV, hu⟩ := hrel
  obtain ⟨wB, rfl⟩ : ∃ x, x = wr := ⟨_, rfl⟩
  clear hT2 hUT2 z1 e1
  have hold := HT.out
  have hgN : ¬ g = t := fun e => hold.tg e.symm
  have hrow : wB.ownsRow 0 TSl 5 (.slice (some ⟨g, 0, none⟩) N c) N (rows s N) := ownsRow_upd hold.row hu (fun q hq e => by have := Option.some.inj hq; dsimp only at this; omega)
  have H2 := Lib.hid h2
  have HU := Lib.hid hu
  have HOK := Lib.hid hold.ok
  clear h2 hu hold
  rcases Nat.lt_or_ge k N with hlt2 | hge
  · have hkI : (k : Int) < N := by omega
    have hcell : ∀ r v, (KS (s k))[r]? = some v → wB.cell? ⟨g, k * 5 + r, none⟩ = some v := fun r v hv => by
     have hr : r < 5 := by
      rcases Nat.lt_or_ge r 5 with h' | h'
      · exact h'
      · rw [List.getElem?_eq_none (by rw [ks_len]; exact h')] at hv; cases hv
     exact (rowW_cell (o := fun k => k = g) ⟨hrow, fun k => ⟨fun e => by rw [e]; rfl, fun e => by have := Option.some.inj e; exact this.symm⟩⟩ (by rw [rows_at hlt2 hr]; exact hv)).1
    cases hs : s k with
    | none =>
      have q0 : wB.cell? ⟨g, k * 5, none⟩ = some (.int .u32 0) := hcell 0 _ (by rw [hs]; rfl)
      have q1 : wB.cell? ⟨g, k * 5 + 1, none⟩ = some (.bool false) := hcell 1 _ (by rw [hs]; rfl)
      have q2 : wB.cell? ⟨g, k * 5 + 2, none⟩ = some (.int .i64 0) := hcell 2 _ (by rw [hs]; rfl)
      have q3 : wB.cell? ⟨g, k * 5 + 3, none⟩ = some (.int .u64 0) := hcell 3 _ (by rw [hs]; rfl)
      have q4 : wB.cell? ⟨g, k * 5 + 4, none⟩ = some (.int .u64 0) := hcell 4 _ (by rw [hs]; rfl)
      have HSK := Lib.hid hs
      clear hcell hs hrow
      go_wp2_with fail
      go_roundw
      case rel => exact ⟨k + 1, s2, by go_num, by omega, H2.out.old ((Upd.refl _ _).alloc _), Lib.hid (HMV.out.skip HSK.out), HU.out.alloc _⟩
      case measure => simp [intOf]; omega
    | some y =>
      obtain ⟨id, x0, x1, x2⟩ := y
      have q0 : wB.cell? ⟨g, k * 5, none⟩ = some (.int .u32 (id : Nat)) := hcell 0 _ (by rw [hs]; rfl)
      have q1 : wB.cell? ⟨g, k * 5 + 1, none⟩ = some (.bool true) := hcell 1 _ (by rw [hs]; rfl)
      have q2 : wB.cell? ⟨g, k * 5 + 2, none⟩ = some (.int .i64 (x0 : Nat)) := hcell 2 _ (by rw [hs]; rfl)
      have q3 : wB.cell? ⟨g, k * 5 + 3, none⟩ = some (.int .u64 (x1 : Nat)) := hcell 3 _ (by rw [hs]; rfl)
      have q4 : wB.cell? ⟨g, k * 5 + 4, none⟩ = some (.int .u64 (x2 : Nat)) := hcell 4 _ (by rw [hs]; rfl)
      obtain ⟨F, hF⟩ : ∃ F, fnd s2 M (hom M) id = F := ⟨_, rfl⟩
      have hFM : F < M := by rw [← hF]; exact HMV.out.ok.lt id
      have HAD := HMV.out.add HOK.out hlt2 hs hMN
      rw [hF] at HAD
      have HMV2 := Lib.hid HAD
      have hA : Upd Nowhere wB (wB.alloc (.cells #[.int .u32 id, .bool true, .int .i64 x0, .int .u64 x1, .int .u64 x2] TSl)) := (Upd.refl _ _).alloc _
      have hB : Blk (wB.alloc (.cells #[.int .u32 id, .bool true, .int .i64 x0, .int .u64 x1, .int .u64 x2] TSl)) wB.heap.size #[.int .u32 id, .bool true, .int .i64 x0, .int .u64 x1, .int .u64 x2] TSl := Blk.new _ _ _
      have HD := fun u (hu : Upd Nowhere (wB.alloc (.cells #[.int .u32 id, .bool true, .int .i64 x0, .int .u64 x1, .int .u64 x2] TSl)) u) => Lib.hid (find_any ((H2.out.old hA).old hu) (id := id))
      rw [hF] at HD
      have h3 := H2.out.old hA
      have HFIN := fun j => Lib.hid ((h3.old ((Upd.refl _ _).drewN j)).put_ hFM (x0, x1, x2) HMV2.out.ok)
      have HU3 := Lib.hid (HU.out.alloc (.cells #[.int .u32 id, .bool true, .int .i64 x0, .int .u64 x1, .int .u64 x2] TSl))
      have hFI : (F : Int) < M := by omega
      have z0 := h3.free (F * 5)
      have z1 := h3.free (F * 5 + 1)
      have z2 := h3.free (F * 5 + 2)
      have z3 := h3.free (F * 5 + 3)
      have z4 := h3.free (F * 5 + 4)
      have e0 : (wB.alloc (.cells #[.int .u32 id, .bool true, .int .i64 x0, .int .u64 x1, .int .u64 x2] TSl)).cell? ⟨t, 0, none⟩ = some (.slice (some ⟨g2, 0, none⟩) M M) := h3.blk.cellAt rfl
      obtain ⟨v0, v1, v2, v3, v4, hv⟩ : ∃ v0 v1 v2 v3 v4, (wB.alloc (.cells #[.int .u32 id, .bool true, .int .i64 x0, .int .u64 x1, .int .u64 x2] TSl)).cell? ⟨g2, F * 5, none⟩ = some v0 ∧ (wB.alloc (.cells #[.int .u32 id, .bool true, .int .i64 x0, .int .u64 x1, .int .u64 x2] TSl)).cell? ⟨g2, F * 5 + 1, none⟩ = some v1 ∧ (wB.alloc (.cells #[.int .u32 id, .bool true, .int .i64 x0, .int .u64 x1, .int .u64 x2] TSl)).cell? ⟨g2, F * 5 + 2, none⟩ = some v2 ∧ (wB.alloc (.cells #[.int .u32 id, .bool true, .int .i64 x0, .int .u64 x1, .int .u64 x2] TSl)).cell? ⟨g2, F * 5 + 3, none⟩ = some v3 ∧ (wB.alloc (.cells #[.int .u32 id, .bool true, .int .i64 x0, .int .u64 x1, .int .u64 x2] TSl)).cell? ⟨g2, F * 5 + 4, none⟩ = some v4 := by
       cases hs2 : s2 F with
       | none => obtain ⟨a0, a1, a2, a3, a4⟩ := h3.gap hFM hs2; exact ⟨_, _, _, _, _, a0, a1, a2, a3, a4⟩
       | some y => obtain ⟨b0, b1, b2, b3⟩ := y; obtain ⟨a0, a1, a2, a3, a4⟩ := h3.slot hFM hs2; exact ⟨_, _, _, _, _, a0, a1, a2, a3, a4⟩
      obtain ⟨y0, y1, y2, y3, y4⟩ := hv
      clear hcell hs hrow hF HAD h3 hA H2 HU HMV
      go_upto_region 6 with fail
      clear q0 q1 q2 q3 q4
      generalize wB.alloc (.cells #[.int .u32 id, .bool true, .int .i64 x0, .int .u64 x1, .int .u64 x2] TSl) = w3 at *
      obtain ⟨c0, c1, c2, c3, c4, _, _, _, _, _⟩ := cells5 hB
      refine wp_region_tail 10 (by kernel_rfl) (by kernel_rfl) ?_
      simp only [List.take_succ_cons, List.take_zero, List.drop_succ_cons, List.drop_zero]
      repeat (go_big_quiet_step ((go_at_call 95; exact quiet_same (HD _ ((Upd.refl _ _).drewN _)).out)))
      refine wpQuiet_nil ?_
      rintro _ ⟨nq2, rfl⟩
      go_wp2_with fail
      refine Stage.out ?_
      go_wp2_with fail
      go_roundw
      case rel => exact ⟨k + 1, put s2 F (id, x0, x1, x2), by go_num, by omega, (HFIN _).out, HMV2, putL_upd (KS (some (id, x0, x1, x2))) (S := fun q => q = t) (g := g2) (o := F * 5) (HU3.out.drewN _) (fun h => by have := HG2.out; omega)⟩
      case measure => simp [intOf]; omega
  · obtain rfl : k = N := by omega
    have dI : ¬ (k : Int) < k := by omega
    go_wp2_with fail
    go_end0
    exact ⟨rfl, _, _, _, H2.out, HMV.out, Nat.le_of_eq HG2.out, HU.out⟩
end Go.Proofs.YtpgpjjkeginbbaaGreatDoor.Tab
namespace Go.Proofs.YtpgpjjkeginbbaaGreatDoor.Tab
open Go.RowKit Go.Proofs BigFrame
open HeapW (putL setL putL_blk putL_upd setL_length setL_take)
set_option maxHeartbeats 8000000
set_option maxRecDepth 1000000
set_option linter.unusedSimpArgs false
theorem pw_small {N : Nat} (h : ∃ e, N = 2 ^ (e + 3) ∧ e ≤ 4) (hN : N ≤ 85) : N ≤ 64 := by
 obtain ⟨e, rfl, he⟩ := h
 obtain rfl | rfl | rfl | rfl | rfl : e = 0 ∨ e = 1 ∨ e = 2 ∨ e = 3 ∨ e = 4 := by omega
 all_goals first | decide | (simp at hN)
theorem TIn.inc {w : World} {t g c N n room : Nat} {s : Sl Own} (h : TIn w t g c N n room s) : TIn (w.setCell ⟨t, 1, none⟩ (.int .i64 ((n + 1 : Nat) : Int))) t g c N (n + 1) room s :=
 ⟨h.blk.set 1 _, ownsRow_upd h.row ((Upd.refl (fun q => q = t) w).setCell (a := ⟨t, 1, none⟩) (fun _ => rfl) _) (fun q hq e => by have := Option.some.inj hq; exact h.tg (by rw [← e]; exact this.symm)), h.ok, h.pw, h.tg⟩
/-- Cells of a slot, whatever is in it. -/
theorem TIn.any_ {w : World} {t g c N n room F : Nat} {s : Sl Own} (h : TIn w t g c N n room s) (hF : F < N) : ∃ v0 v1 v2 v3 v4, w.cell? ⟨g, F * 5, none⟩ = some v0 ∧ w.cell? ⟨g, F * 5 + 1, none⟩ = some v1 ∧ w.cell? ⟨g, F * 5 + 2, none⟩ = some v2 ∧ w.cell? ⟨g, F * 5 + 3, none⟩ = some v3 ∧ w.cell? ⟨g, F * 5 + 4, none⟩ = some v4 := by
 cases hs2 : s F with
 | none => obtain ⟨a0, a1, a2, a3, a4⟩ := h.gap hF hs2; exact ⟨_, _, _, _, _, a0, a1, a2, a3, a4⟩
 | some y => obtain ⟨b0, b1, b2, b3⟩ := y; obtain ⟨a0, a1, a2, a3, a4⟩ := h.slot hF hs2; exact ⟨_, _, _, _, _, a0, a1, a2, a3, a4⟩
/-- What a table is while a thing is laid into it. -/
structure Has (w : World) (t g c N n room : Nat) (s : Sl Own) (m : Nat → Option Own) : Prop where
 at_ : TIn w t g c N n room s
 of : Of s N m
 cn : cnt s N = n
theorem put_any {w : World} {t g c N n room id x0 x1 x2 : Nat} {s : Sl Own} {m : Nat → Option Own} (hh : Has w t g c N n room s m) (hi : m id = none) (hn : n < room) (hr : room ≤ 64) (hl : 4 * n ≤ 3 * N) :
 Calls Tryz.prog 56 #[.pointer (some ⟨t, 0, none⟩), .int .u32 id, VO (x0, x1, x2)] w fun e w' => e = .returned (.int .i64 0) ∧ ∃ g' c' N' s', Has w' t g' c' N' (n + 1) room s' (upm m id (x0, x1, x2)) ∧ 4 * (n + 1) ≤ 3 * N' ∧ (g' = g ∨ w.heap.size ≤ g') ∧ Upd (fun q => q = t ∨ q = g) w w' := by
 have h := hh.at_
 have hU : Upd Nowhere w (w.alloc (.cells #[.int .i64 x0, .int .u64 x1, .int .u64 x2] TO)) := (Upd.refl _ _).alloc _
 have hB : Blk (w.alloc (.cells #[.int .i64 x0, .int .u64 x1, .int .u64 x2] TO)) w.heap.size #[.int .i64 x0, .int .u64 x1, .int .u64 x2] TO := Blk.new _ _ _
 have HM := fun u (hu : Upd Nowhere w u) => Lib.hid (made_any (h.old hu))
 obtain ⟨F0, hF0⟩ : ∃ F, fnd s N (hom N) id = F := ⟨_, rfl⟩
 have HD := fun u (hu : Upd Nowhere w u) => Lib.hid (find_any (h.old hu) (id := id))
 rw [hF0] at HD
 have hFN : F0 < N := by rw [← hF0]; exact h.ok.lt id
 have hs0 : s F0 = none := by rw [← hF0, hh.of.at_ h.ok, hi]; rfl
 have h2 := h.old hU
 have k0 : (w.alloc (.cells #[.int .i64 x0, .int .u64 x1, .int .u64 x2] TO)).cell? ⟨t, 0, none⟩ = some (.slice (some ⟨g, 0, none⟩) N c) := h2.blk.cellAt rfl
 have k1 : (w.alloc (.cells #[.int .i64 x0, .int .u64 x1, .int .u64 x2] TO)).cell? ⟨t, 1, none⟩ = some (.int .i64 (n : Nat)) := h2.blk.cellAt rfl
 have k2 : (w.alloc (.cells #[.int .i64 x0, .int .u64 x1, .int .u64 x2] TO)).cell? ⟨t, 2, none⟩ = some (.int .i64 (room : Nat)) := h2.blk.cellAt rfl
 obtain ⟨s0, s1, s2, s3, s4⟩ := h2.gap hFN hs0
 have hFI : (F0 : Int) < N := by omega
 have hNb := h.big
 have t0 : decide ((n : Int) ≥ room) = false := decide_eq_false (by omega)
 have t1 : decide (room ≤ n) = false := decide_eq_false (by omega)
 have htw := h.blk.lt
 have HH := Lib.hid hh
 have HB := Lib.hid hB
 have HI := Lib.hid hi
 have HTB := Lib.hid htw
 obtain ⟨pb, hpb⟩ : ∃ pb, w.heap.size = pb := ⟨_, rfl⟩
 have HPB := Lib.hid hpb
 have hgw : g < w.heap.size := by obtain ⟨cur, hb, _⟩ := Blk.own h.row; exact hb.lt
 have HGW := Lib.hid hgw
 clear h hF0 hs0 h2 hB hi htw hpb hgw
 go_enter Tryz.func56, Tryz.ntmps56
 go_wp2_with fail
 refine ((HM _ hU).out).mono ?_
 rintro e w' ⟨rfl, rfl⟩
 go_upto_region 3 with fail
 generalize w.alloc (.cells #[.int .i64 x0, .int .u64 x1, .int .u64 x2] TO) = w2 at *
 go_quiet ((go_at_call 95; with_reducible exact quiet_same (HD _ (hU.drewN _)).out))
 go_upto_region 5 with fail
 go_quiet (fail)
 go_upto_region 7 with fail
 by_cases hgr : 3 * N < 4 * (n + 1)
 · have g0 : decide (4 * ((n : Int) + 1) > 3 * (N : Int)) = true := decide_eq_true (by omega)
   have g1 : decide (3 * (N : Int) < 4 * ((n : Int) + 1)) = true := decide_eq_true (by omega)
   have g2 : decide (3 * N < 4 * (n + 1)) = true := decide_eq_true hgr
   go_quiet (fail)
   rename_i nq3
   go_upto_region 8 with fail
   have HG := Lib.hid (fun j => grow_any (HH.out.at_.old (hU.drewN j)) (pw_small HH.out.at_.pw (by omega)))
   go_wp2_with fail
   refine (HG.out _).mono ?_
   rintro e w9 ⟨rfl, g', c', s', h9, mv9, hg9, u9⟩
   have hof := mv9.of HH.out.of
   have hcn := mv9.n.trans HH.out.cn
   have hB9 := (HB.out.kept (((Upd.refl Nowhere w2).drewN _)) (fun h => h)).kept u9 (fun e => by have := HTB.out; omega)
   have hU9 : Upd (fun q => q = t ∨ q = g) w w9 := ((hU.drewN _).any _).trans u9 (fun _ _ h => .inl h)
   have hgn : g' = g ∨ w.heap.size ≤ g' := .inr (Nat.le_trans (hU.drewN _).size hg9)
   obtain ⟨N', hN'⟩ : ∃ N', 2 * N = N' := ⟨_, rfl⟩
   have hl9 : 4 * (n + 1) ≤ 3 * N' := by omega
   rw [hN'] at h9 mv9 hof hcn
   clear mv9 hg9 u9 hN' k0 k1 k2 s0 s1 s2 s3 s4 HG
   obtain ⟨F, hF⟩ : ∃ F, fnd s' N' (hom N') id = F := ⟨_, rfl⟩
   have hFN' : F < N' := by rw [← hF]; exact h9.ok.lt id
   have hab : ∀ j y, j < N' → s' j ≠ some (id, y) := fun j y hj e => by have := (hof id y).2 ⟨j, hj, e⟩; rw [HI.out] at this; cases this
   have hNb9 := h9.big
   have hok := h9.ok.put (id := id) (x0, x1, x2) hab (by rw [hcn]; omega)
   have hof2 := hof.put h9.ok HI.out (x0, x1, x2)
   have hn0 : s' F = none := by rw [← hF]; exact h9.ok.absent hab
   rw [hF] at hok hof2
   have hcn2 : cnt (put s' F (id, x0, x1, x2)) N' = n + 1 := by rw [cnt_put_new hn0 hFN', hcn]
   have HFIN := fun j => Lib.hid (((h9.old ((Upd.refl _ _).drewN j)).put_ hFN' (x0, x1, x2) hok).inc)
   have HD9 := fun u (hu : Upd Nowhere w9 u) => Lib.hid (find_any (h9.old hu) (id := id))
   rw [hF] at HD9
   have hFI9 : (F : Int) < N' := by omega
   have k0 : w9.cell? ⟨t, 0, none⟩ = some (.slice (some ⟨g', 0, none⟩) N' c') := h9.blk.cellAt rfl
   have k1 : w9.cell? ⟨t, 1, none⟩ = some (.int .i64 (n : Nat)) := h9.blk.cellAt rfl
   have z1 := h9.blk.free 1
   obtain ⟨v0, v1, v2, v3, v4, y0, y1, y2, y3, y4⟩ := h9.any_ hFN'
   have f0 := h9.free (F * 5)
   have f1 := h9.free (F * 5 + 1)
   have f2 := h9.free (F * 5 + 2)
   have f3 := h9.free (F * 5 + 3)
   have f4 := h9.free (F * 5 + 4)
   have n1 : ¬ t = g' := h9.tg
   have n2 : ¬ g' = t := fun e => h9.tg e.symm
   obtain ⟨c0, c1, c2, _, _, _⟩ := cells3 hB9
   have HOF := Lib.hid hof2
   have HCN := Lib.hid hcn2
   have HU9 := Lib.hid hU9
   have HGN := Lib.hid hgn
   have HL9 := Lib.hid hl9
   clear h9 hof hcn hF hab hok hof2 hn0 hcn2 hB9 hU9 hgn hl9
   go_upto_region 9 with fail
   refine wp_region_tail 11 (by kernel_rfl) (by kernel_rfl) ?_
   simp only [List.take_succ_cons, List.take_zero, List.drop_succ_cons, List.drop_zero]
   repeat (go_big_quiet_step ((go_at_call 95; exact quiet_same (HD9 _ ((Upd.refl _ _).drewN _)).out)))
   refine wpQuiet_nil ?_
   rintro _ ⟨nq9, rfl⟩
   go_wp2_with fail
   refine Stage.out ?_
   go_wp2_with fail
   go_ret
   refine ⟨rfl, g', c', N', _, ⟨(HFIN _).out, HOF.out, HCN.out⟩, HL9.out, HGN.out, ?_⟩
   exact Upd.setCell (S := fun q => q = t ∨ q = g) (a := ⟨t, 1, none⟩) (putL_upd (KS (some (id, x0, x1, x2))) (S := fun q => q = t ∨ q = g) (g := g') (o := F * 5) (HU9.out.drewN _) (fun hlt => HGN.out.elim (fun e => .inr e) (fun h => absurd hlt (Nat.not_lt.2 h)))) (fun _ => .inl rfl) _
 · have g0 : decide (4 * ((n : Int) + 1) > 3 * (N : Int)) = false := decide_eq_false (by omega)
   have g1 : decide (3 * (N : Int) < 4 * ((n : Int) + 1)) = false := decide_eq_false (by omega)
   have g2 : decide (3 * N < 4 * (n + 1)) = false := decide_eq_false hgr
   go_quiet (fail)
   rename_i nq3
   go_upto_region 9 with fail
   obtain ⟨w9, hw9⟩ : ∃ w9, w9 = w2 := ⟨_, rfl⟩
   have h9 := HH.out.at_.old hU
   have hof := HH.out.of
   have hcn := HH.out.cn
   have hB9 := HB.out
   have hU9 : Upd (fun q => q = t ∨ q = g) w w2 := hU.any _
   have hgn : g = g ∨ w.heap.size ≤ g := .inl rfl
   have hl9 : 4 * (n + 1) ≤ 3 * N := by omega
   clear k0 k1 k2 s0 s1 s2 s3 s4 hw9
   obtain ⟨F, hF⟩ : ∃ F, fnd s N (hom N) id = F := ⟨_, rfl⟩
   have hFNq : F < N := by rw [← hF]; exact h9.ok.lt id
   have hab : ∀ j y, j < N → s j ≠ some (id, y) := fun j y hj e => by have := (hof id y).2 ⟨j, hj, e⟩; rw [HI.out] at this; cases this
   have hNb9 := h9.big
   have hok := h9.ok.put (id := id) (x0, x1, x2) hab (by rw [hcn]; omega)
   have hof2 := hof.put h9.ok HI.out (x0, x1, x2)
   have hn0 : s F = none := by rw [← hF]; exact h9.ok.absent hab
   rw [hF] at hok hof2
   have hcn2 : cnt (put s F (id, x0, x1, x2)) N = n + 1 := by rw [cnt_put_new hn0 hFNq, hcn]
   have HFIN := fun j => Lib.hid (((h9.old ((Upd.refl _ _).drewN j)).put_ hFNq (x0, x1, x2) hok).inc)
   have HD9 := fun u (hu : Upd Nowhere w2 u) => Lib.hid (find_any (h9.old hu) (id := id))
   rw [hF] at HD9
   have hFI9 : (F : Int) < N := by omega
   have k0 : w2.cell? ⟨t, 0, none⟩ = some (.slice (some ⟨g, 0, none⟩) N c) := h9.blk.cellAt rfl
   have k1 : w2.cell? ⟨t, 1, none⟩ = some (.int .i64 (n : Nat)) := h9.blk.cellAt rfl
   have z1 := h9.blk.free 1
   obtain ⟨v0, v1, v2, v3, v4, y0, y1, y2, y3, y4⟩ := h9.any_ hFNq
   have f0 := h9.free (F * 5)
   have f1 := h9.free (F * 5 + 1)
   have f2 := h9.free (F * 5 + 2)
   have f3 := h9.free (F * 5 + 3)
   have f4 := h9.free (F * 5 + 4)
   have n1 : ¬ t = g := h9.tg
   have n2 : ¬ g = t := fun e => h9.tg e.symm
   obtain ⟨c0, c1, c2, _, _, _⟩ := cells3 hB9
   have HOF := Lib.hid hof2
   have HCN := Lib.hid hcn2
   have HU9 := Lib.hid hU9
   have HGN := Lib.hid hgn
   have HL9 := Lib.hid hl9
   clear h9 hof hcn hF hab hok hof2 hn0 hcn2 hB9 hU9 hgn hl9
   go_upto_region 9 with fail
   refine wp_region_tail 11 (by kernel_rfl) (by kernel_rfl) ?_
   simp only [List.take_succ_cons, List.take_zero, List.drop_succ_cons, List.drop_zero]
   repeat (go_big_quiet_step ((go_at_call 95; exact quiet_more_same (HD9 _ ((Upd.refl _ _).drewN _)).out)))
   refine wpQuiet_nil ?_
   rintro _ ⟨nq9, rfl⟩
   go_wp2_with fail
   refine Stage.out ?_
   go_wp2_with fail
   go_ret
   refine ⟨rfl, g, c, N, _, ⟨(HFIN _).out, HOF.out, HCN.out⟩, HL9.out, .inl rfl, ?_⟩
   exact Upd.setCell (S := fun q => q = t ∨ q = g) (a := ⟨t, 1, none⟩) (putL_upd (KS (some (id, x0, x1, x2))) (S := fun q => q = t ∨ q = g) (g := g) (o := F * 5) (HU9.out.drewN _) (fun _ => .inr rfl)) (fun _ => .inl rfl) _
end Go.Proofs.YtpgpjjkeginbbaaGreatDoor.Tab
namespace Go.Proofs.YtpgpjjkeginbbaaGreatDoor.Tab
open Go.RowKit Go.Proofs BigFrame
set_option maxHeartbeats 1000000
set_option linter.unusedSimpArgs false
/-- A table of the blocks own: n things, of at most room; m tells which. -/
def TM (w : World) (t : Nat) (own : Nat → Prop) (room n : Nat) (m : Nat → Option Own) : Prop :=
 ∃ g c N s, Has w t g c N n room s m ∧ 4 * n ≤ 3 * N ∧ room ≤ 64 ∧ ∀ k, own k ↔ k = t ∨ k = g
section
variable {w w' : World} {t room n : Nat} {own : Nat → Prop} {m : Nat → Option Own}
theorem TM.kept (h : TM w t own room n m) {S : Nat → Prop} (hu : Upd S w w') (hS : ∀ k, own k → ¬ S k) : TM w' t own room n m := by
 obtain ⟨g, c, N, s, h1, h2, h3, h4⟩ := h
 exact ⟨g, c, N, s, ⟨h1.at_.kept hu (hS t ((h4 t).2 (.inl rfl))) (hS g ((h4 g).2 (.inr rfl))), h1.of, h1.cn⟩, h2, h3, h4⟩
theorem TM.old (h : TM w t own room n m) (hu : Upd Nowhere w w') : TM w' t own room n m := h.kept hu (fun _ _ h => h)
theorem TM.lts (h : TM w t own room n m) {k : Nat} (hk : own k) : k < w.heap.size := by
 obtain ⟨g, c, N, s, h1, h2, h3, h4⟩ := h
 rcases (h4 k).1 hk with rfl | rfl
 · exact h1.at_.blk.lt
 · obtain ⟨cur, hb, _⟩ := Blk.own h1.at_.row; exact hb.lt
/-- Such a table, among other things. -/
def tabC (t room n : Nat) (m : Nat → Option Own) : Comp := ⟨fun w o => TM w t o room n m, fun h hu hS => h.kept hu hS, fun h hk => h.lts hk⟩
theorem t_new (w : World) (room : Nat) (h1 : 1 ≤ room) (h2 : room ≤ 64) : Calls Tryz.prog 55 #[.int .i64 room] w fun e w' => ∃ t own, e = .returned (.tuple #[.pointer (some ⟨t, 0, none⟩), .int .i64 0]) ∧ TM w' t own room 0 (fun _ => none) ∧ (∀ k, own k → w.heap.size ≤ k) ∧ Upd Nowhere w w' := by
 refine (new_ok w room h1 h2).mono ?_
 rintro e w' ⟨t, g, c, rfl, hT, ht, hg, hu⟩
 have hc : ∀ k, cnt (fun _ => (none : Option (Nat × Own))) k = 0 := fun k => by
  induction k with
  | zero => rfl
  | succ k ih => unfold cnt; rw [ih]; rfl
 refine ⟨t, fun k => k = t ∨ k = g, rfl, ⟨g, c, 8, fun _ => none, ⟨hT, fun id x => ⟨fun e => (nomatch e), fun ⟨_, _, e⟩ => (nomatch e)⟩, hc 8⟩, by omega, h2, fun _ => Iff.rfl⟩, fun k hk => ?_, hu⟩
 rcases hk with rfl | rfl
 · exact ht
 · exact hg
theorem t_some {id x0 x1 x2 : Nat} (h : TM w t own room n m) (hi : m id = some (x0, x1, x2)) : Calls Tryz.prog 111 #[.pointer (some ⟨t, 0, none⟩), .int .u32 id] w fun e w' => e = .returned (.tuple #[VO (x0, x1, x2), .bool true]) ∧ Upd Nowhere w w' := by
 obtain ⟨g, c, N, s, h1, h2, h3, h4⟩ := h
 exact get_some h1.at_ rfl (by rw [h1.of.at_ h1.at_.ok, hi]; rfl)
theorem t_none {id : Nat} (h : TM w t own room n m) (hi : m id = none) : Calls Tryz.prog 111 #[.pointer (some ⟨t, 0, none⟩), .int .u32 id] w fun e w' => e = .returned (.tuple #[VO (0, 0, 0), .bool false]) ∧ Upd Nowhere w w' := by
 obtain ⟨g, c, N, s, h1, h2, h3, h4⟩ := h
 exact get_none h1.at_ rfl (by rw [h1.of.at_ h1.at_.ok, hi]; rfl)
theorem t_set {id y0 y1 y2 : Nat} {x : Own} (h : TM w t own room n m) (hi : m id = some x) : Calls Tryz.prog 113 #[.pointer (some ⟨t, 0, none⟩), .int .u32 id, VO (y0, y1, y2)] w fun e w' => e = .returned (.bool true) ∧ TM w' t own room n (upm m id (y0, y1, y2)) ∧ Upd own w w' := by
 obtain ⟨g, c, N, s, h1, h2, h3, h4⟩ := h
 obtain ⟨x0, x1, x2⟩ := x
 have hs : s (fnd s N (hom N) id) = some (id, x0, x1, x2) := by rw [h1.of.at_ h1.at_.ok, hi]; rfl
 refine (set_some h1.at_ rfl hs).mono ?_
 rintro e w' ⟨rfl, hT, hu⟩
 exact ⟨rfl, ⟨g, c, N, _, ⟨hT, h1.of.set h1.at_.ok hi _, by rw [cnt_put_old hs (h1.at_.ok.lt id)]; exact h1.cn⟩, h2, h3, h4⟩, hu.mono fun k _ hk => (h4 k).2 (.inr hk)⟩
theorem t_put {id x0 x1 x2 : Nat} (h : TM w t own room n m) (hi : m id = none) (hn : n < room) : Calls Tryz.prog 56 #[.pointer (some ⟨t, 0, none⟩), .int .u32 id, VO (x0, x1, x2)] w fun e w' => e = .returned (.int .i64 0) ∧ ∃ own', TM w' t own' room (n + 1) (upm m id (x0, x1, x2)) ∧ Fol w own w' own' := by
 obtain ⟨g, c, N, s, h1, h2, h3, h4⟩ := h
 refine (put_any h1 hi hn h3 h2).mono ?_
 rintro e w' ⟨rfl, g', c', N', s', a1, a2, a3, a4⟩
 refine ⟨rfl, fun k => k = t ∨ k = g', ⟨g', c', N', s', a1, a2, h3, fun _ => Iff.rfl⟩, ⟨fun k hk => ?_, a4.mono fun k _ hk => (h4 k).2 hk⟩⟩
 rcases hk with rfl | rfl
 · exact .inl ((h4 _).2 (.inl rfl))
 · exact a3.imp (fun e => (h4 _).2 (.inr e)) (fun h => h)
end
end Go.Proofs.YtpgpjjkeginbbaaGreatDoor.Tab

