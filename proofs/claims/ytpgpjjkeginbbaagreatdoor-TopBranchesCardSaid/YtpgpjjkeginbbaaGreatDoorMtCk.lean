/- Ck, Cw, one behind the other. -/
import Derived.Test.YtpgpjjkeginbbaaGreatDoorMtCal
import Derived.Test.YtpgpjjkeginbbaaGreatDoorMtBk
import Derived.Test.YtpgpjjkeginbbaaGreatDoorMtSh8
namespace Go.Proofs.YtpgpjjkeginbbaaGreatDoor.Ck
open Go.RowKit Go.Proofs BigFrame
open Sh (Pk Cg)
open Gt (VC TCg cgs)
open Bk (VP VB zP TPk)
open CalP (StP)
set_option maxHeartbeats 4000000
set_option maxRecDepth 1000000
set_option linter.unusedSimpArgs false
abbrev TC : TypeId := 170
theorem peek_c {w : World} {b r x0 x1 x2 : Nat} {ok : Bool} (HL : ∀ u, Upd Nowhere w u → Hid (Calls Tryz.prog 215 #[.pointer (some ⟨b, 0, none⟩)] u fun e w' => e = .returned (.tuple #[.int .u64 r, VP (x0, x1, x2), .bool ok]) ∧ Upd Nowhere u w')) :
 Calls Tryz.prog 212 #[VB b] w fun e w' => e = .returned (.tuple #[.int .u64 r, VP (x0, x1, x2), .bool ok]) ∧ Upd Nowhere w w' := by
 have hU : Upd Nowhere w ((w.alloc (.cells #[.pointer (some ⟨b, 0, none⟩)] TC)).alloc (.cells zP TPk)) := ((Upd.refl _ _).alloc _).alloc _
 have hN : Blk ((w.alloc (.cells #[.pointer (some ⟨b, 0, none⟩)] TC)).alloc (.cells zP TPk)) (w.heap.size + 1) zP TPk := Blk.new2 _ _ _ _
 have HC := HL _ hU
 clear HL
 go_enter Tryz.func212, Tryz.ntmps212
 go_wp2_with fail
 refine (HC.out).mono ?_
 rintro e w1 ⟨rfl, hu⟩
 have hU1 := hU.trans hu (fun _ _ h => h)
 obtain ⟨c0, c1, c2, z0, z1, z2⟩ := cells3 (hN.kept hu id)
 clear hU hN hu HC
 go_wp2_with fail
 exact bodyPost_ret (v := .tuple #[.int .u64 r, .agg #[.int .u32 x0, .int .u32 x1, .int .u64 x2], .bool ok]) (by simp [results, Tryz.results212, go_sem, c0, c1, c2]) rfl ⟨rfl, (by repeat (first | with_reducible exact hU1 | with_reducible refine Upd.drewN ?_ _ | with_reducible refine Upd.drew ?_ | with_reducible refine Upd.setNew ?_ (Nat.le_succ _) _))⟩
theorem pop_c {w : World} {b : Nat} {V : Value} {S : World → Prop} (HL : ∀ u, Upd Nowhere w u → Hid (Calls Tryz.prog 216 #[.pointer (some ⟨b, 0, none⟩)] u fun e w' => e = .returned V ∧ S w')) :
 Calls Tryz.prog 213 #[VB b] w fun e w' => e = .returned (.tuple #[]) ∧ S w' := by
 have HC := HL _ ((Upd.refl _ w).alloc (.cells #[.pointer (some ⟨b, 0, none⟩)] TC))
 clear HL
 go_enter Tryz.func213, Tryz.ntmps213
 go_wp2_with fail
 refine (HC.out).mono ?_
 rintro e w1 ⟨rfl, hs⟩
 go_wp2_with fail
 go_end0
 exact ⟨rfl, hs⟩
theorem push_c {w : World} {b r x0 x1 x2 : Nat} {V : Value} {S : World → Prop} (HL : ∀ u, Upd Nowhere w u → Hid (Calls Tryz.prog 217 #[.pointer (some ⟨b, 0, none⟩), .int .u64 r, VP (x0, x1, x2)] u fun e w' => e = .returned V ∧ S w')) :
 Calls Tryz.prog 214 #[VB b, .int .u64 r, VP (x0, x1, x2)] w fun e w' => e = .returned (.tuple #[]) ∧ S w' := by
 have HC := HL _ (((Upd.refl _ w).alloc (.cells #[.pointer (some ⟨b, 0, none⟩)] TC)).alloc (.cells #[.int .u32 x0, .int .u32 x1, .int .u64 x2] TPk))
 clear HL
 go_enter Tryz.func214, Tryz.ntmps214
 go_wp2_with fail
 refine (HC.out).mono ?_
 rintro e w1 ⟨rfl, hs⟩
 go_wp2_with fail
 go_end0
 exact ⟨rfl, hs⟩
theorem fol_of {w u w' : World} {own own' : Nat → Prop} (hu : Upd Nowhere w u) (h : Fol u own w' own') : Fol w own w' own' := ((Fol.refl w own).old hu).trans h
theorem made_any {R : World → Value → (Nat → Prop) → Nat → Nat → Sh.Bk → Prop} (hR : ∀ {w cb own room}, CalP.St w own cb room 0 [] → R w (.iface TC (VB cb)) own room 0 (.srt [])) {c : Cg} {fv : Value} (hb : c.back = 2) (hp : 1 ≤ c.packets ∧ c.packets ≤ 4096) (hlv : 1 ≤ c.levels ∧ c.levels ≤ 3) (w : World) : Shm.MadeOk R c fv w := by
 obtain ⟨room, hr⟩ : ∃ room : Nat, c.packets = room := ⟨c.packets.toNat, by omega⟩
 obtain ⟨lv, hl⟩ : ∃ lv : Nat, c.levels = lv := ⟨c.levels.toNat, by omega⟩
 have e1 : c.packets.toNat = room := by omega
 have e2 : (Sh.st0 c).bk = .srt [] := if_neg (by rw [hb]; decide)
 unfold Shm.MadeOk
 rw [e1, e2]
 have HQ := fun u => Lib.hid (CalP.s_new room lv u (by omega) (by omega) (by omega) (by omega))
 have hU : Upd Nowhere w (w.alloc (.cells (VC c fv) TCg)) := (Upd.refl _ _).alloc _
 have hB : Blk (w.alloc (.cells (VC c fv) TCg)) w.heap.size (VC c fv) TCg := Blk.new _ _ _
 obtain ⟨q0, q1, q2, q3, q4, q5, q6, q7, q8, q9, q10⟩ := cgs hB
 rw [hb] at q1
 rw [hr] at q4
 rw [hl] at q2
 have HU := Lib.hid hU
 clear e1 e2 hb hU q0 q3 q5 q6 q7 q8 q9 q10 hB
 go_enter Tryz.func22, Tryz.ntmps22
 go_upto_region 1 with fail
 generalize w.alloc (.cells (VC c fv) TCg) = w1 at *
 go_wp2_with fail
 refine (HQ _).out.mono ?_
 rintro e w2 ⟨cb, rfl, ⟨own, h2, h3⟩, u2⟩
 have HR : Hid (R w2 (.iface TC (VB cb)) own room 0 (.srt []) ∧ (∀ k, own k → w.heap.size ≤ k) ∧ Upd Nowhere w w2) := Lib.hid ⟨hR h2, fun k hk => Nat.le_trans HU.out.size (h3 k hk), HU.out.trans u2 (fun _ _ h => h)⟩
 clear h2 h3 u2 q1 q2 q4
 go_wp2_with fail
 go_ret
 exact ⟨_, own, rfl, HR.out.1, HR.out.2.1, HR.out.2.2⟩
end Go.Proofs.YtpgpjjkeginbbaaGreatDoor.Ck
namespace Go.Proofs.YtpgpjjkeginbbaaGreatDoor.Ck
open Go.RowKit Go.Proofs BigFrame
open Sh (Pk Cg)
open Gt (VC TCg cgs)
open Bk (VP VB zP TPk)
open CalP (St s_peek s_pop s_push s_new)
open Wheel (Tab)
set_option maxHeartbeats 4000000
set_option maxRecDepth 1000000
set_option linter.unusedSimpArgs false
theorem peek_w {w : World} {b r x0 x1 x2 room c : Nat} {own : Nat → Prop} {M : List (Nat × Pk)} {ok : Bool} (hs0 : St w own b room c M)
 (HL : ∀ u, Upd Nowhere w u → Hid (Calls Tryz.prog 215 #[.pointer (some ⟨b, 0, none⟩)] u fun e w' => e = .returned (.tuple #[.int .u64 r, VP (x0, x1, x2), .bool ok]) ∧ ∃ own', St w' own' b room c M ∧ Fol u own w' own')) :
 Calls Tryz.prog 212 #[VB b] w fun e w' => e = .returned (.tuple #[.int .u64 r, VP (x0, x1, x2), .bool ok]) ∧ ∃ own', St w' own' b room c M ∧ Fol w own w' own' := by
 have hU : Upd Nowhere w ((w.alloc (.cells #[.pointer (some ⟨b, 0, none⟩)] TC)).alloc (.cells zP TPk)) := ((Upd.refl _ _).alloc _).alloc _
 have hN : Blk ((w.alloc (.cells #[.pointer (some ⟨b, 0, none⟩)] TC)).alloc (.cells zP TPk)) (w.heap.size + 1) zP TPk := Blk.new2 _ _ _ _
 have hno : ¬ own (w.heap.size + 1) := fun h => by have := hs0.lt h; omega
 have HC := HL _ hU
 clear HL hs0
 go_enter Tryz.func212, Tryz.ntmps212
 go_wp2_with fail
 refine (HC.out).mono ?_
 rintro e w1 ⟨rfl, own', hs, hf⟩
 have hno1 : ¬ own' (w.heap.size + 1) := hf.off hno hN.lt
 have HFIN : Hid (∀ u, Upd (fun k => k = w.heap.size + 1) w1 u → ∃ own', St u own' b room c M ∧ Fol w own u own') := Lib.hid (fun u hu => ⟨own', hs.kept hu (fun k hk e => hno1 (by rw [← e]; exact hk)), (fol_of hU hf).ret hu (Nat.le_succ _)⟩)
 obtain ⟨c0, c1, c2, z0, z1, z2⟩ := cells3 (hf.blk hN hno)
 clear hU hN HC hno hno1 hs hf
 go_wp2_with fail
 exact bodyPost_ret (v := .tuple #[.int .u64 r, .agg #[.int .u32 x0, .int .u32 x1, .int .u64 x2], .bool ok]) (by simp [results, Tryz.results212, go_sem, c0, c1, c2]) rfl ⟨rfl, HFIN.out _ (by repeat (first | with_reducible exact Upd.refl _ _ | with_reducible refine Upd.drewN ?_ _ | with_reducible refine Upd.drew ?_ | with_reducible refine CalP.at_one ?_ _ _))⟩
/-- A calendar. -/
def Cw (w : World) (v : Value) (own : Nat → Prop) (room c : Nat) (b : Sh.Bk) : Prop := ∃ k M, b = .srt M ∧ v = .iface TC (VB k) ∧ St w own k room c M
/-- The table, off what is own. -/
def EvC (w : World) (own : Nat → Prop) : Prop := Tab w ∧ ¬ own (Tryz.tz64_ren.g 1) ∧ Tryz.tz64_ren.g 1 < w.heap.size
theorem cw_of {w : World} {k : Nat} {own : Nat → Prop} {room c : Nat} {b : Sh.Bk} (h : Cw w (.iface TC (VB k)) own room c b) : ∃ M, b = .srt M ∧ St w own k room c M := by
 obtain ⟨k', M, e1, e2, h⟩ := h
 cases e2
 exact ⟨M, e1, h⟩
theorem tab_up {w u : World} (h : Tab w) (hu : Upd Nowhere w u) : Tab u := Tab.old h hu id
theorem meth_w (k : Nat) : Bk.Meth Cw (fun _ _ => True) (fun _ => True) EvC (.iface TC (VB k)) TC (VB k) 214 212 213 where
 eq := rfl
 mp := fun _ _ => by kernel_rfl
 mh := fun _ _ => by kernel_rfl
 mo := fun _ _ => by kernel_rfl
 ep := fun _ _ => by kernel_rfl
 eh := fun _ _ => by kernel_rfl
 eo := fun _ _ => by kernel_rfl
 cp := fun {u own room c b} h hl hc r x hr _ => by
  obtain ⟨M, rfl, hs⟩ := cw_of h
  obtain ⟨x0, x1, x2⟩ := x
  have hl2 : M.length < room := hl
  refine push_c (V := .bool true) (S := fun w' => ∃ own', Cw w' _ own' room (c + 1) (Sh.Bk.push (.srt M) r (x0, x1, x2)) ∧ Fol u own w' own') (fun u' hu => Lib.hid ?_)
  refine (s_push (hs.kept hu (fun _ _ h => h)) hc r hr (x0, x1, x2)).mono ?_
  rintro e w' ⟨rfl, own', h', hf⟩
  unfold CalP.psh at h'
  rw [if_pos hl2] at h'
  exact ⟨by rw [decide_eq_true hl2], own', ⟨k, _, rfl, rfl, h'⟩, fol_of hu hf⟩
 ch := fun {u own room c b r x} h hp _ hev => by
  obtain ⟨M, rfl, hs⟩ := cw_of h
  obtain ⟨x0, x1, x2⟩ := x
  cases M with
  | nil => cases hp
  | cons a t =>
    cases hp
    refine (peek_w hs (fun u' hu => Lib.hid (s_peek (hs.kept hu (fun _ _ h => h)) (tab_up hev.1 hu) hev.2.1))).mono ?_
    rintro e w' ⟨rfl, own', h', hf⟩
    exact ⟨rfl, own', ⟨k, _, rfl, rfl, h'⟩, hf⟩
 cn := fun {u own room c b} h hp _ => by
  obtain ⟨M, rfl, hs⟩ := cw_of h
  obtain ⟨sb, pb, bb, ab, base, N, n, X, B, W, R, hs⟩ := hs
  cases M with
  | nil => exact peek_c (x0 := 0) (x1 := 0) (x2 := 0) (fun u' hu => Lib.hid (CalP.peek_empty (hs.old hu)))
  | cons a t => cases hp
 co := fun {u own room c b r x} h hp _ hev => by
  obtain ⟨M, rfl, hs⟩ := cw_of h
  obtain ⟨x0, x1, x2⟩ := x
  cases M with
  | nil => cases hp
  | cons a t =>
    cases hp
    refine pop_c (V := .tuple #[.int .u64 r, VP (x0, x1, x2), .bool true]) (S := fun w' => ∃ own', Cw w' _ own' room c (.srt t) ∧ Fol u own w' own') (fun u' hu => Lib.hid ?_)
    refine (s_pop (hs.kept hu (fun _ _ h => h)) (tab_up hev.1 hu) hev.2.1).mono ?_
    rintro e w' ⟨rfl, own', h', hf⟩
    exact ⟨rfl, own', ⟨k, _, rfl, rfl, h'⟩, fol_of hu hf⟩
def cw_laws : Bk.Laws Cw where
 Pu := fun _ _ => True
 As := fun _ => True
 Ev := EvC
 evf := fun h hf => ⟨Tab.old h.1 hf.upd h.2.1, hf.off h.2.1 h.2.2, Nat.lt_of_lt_of_le h.2.2 hf.upd.size⟩
 evs := fun h hs => ⟨h.1, fun ho => h.2.1 (hs _ ho), h.2.2⟩
 kept := fun h hu hS => by
  obtain ⟨k, M, e1, e2, h⟩ := h
  exact ⟨k, M, e1, e2, h.kept hu hS⟩
 lts := fun h hk => by
  obtain ⟨k, M, e1, e2, h⟩ := h
  exact h.lt hk
 meth := fun {w v own room c b} h => by
  obtain ⟨k, M, e1, e2, h⟩ := h
  subst e2
  exact ⟨_, _, _, _, _, meth_w k⟩
theorem made_cw {c : Cg} {fv : Value} (hb : c.back = 2) (hp : 1 ≤ c.packets ∧ c.packets ≤ 4096) (hlv : 1 ≤ c.levels ∧ c.levels ≤ 3) (w : World) : Shm.MadeOk Cw c fv w := made_any (fun {_ cb _ _} h2 => ⟨cb, [], rfl, rfl, h2⟩) hb hp hlv w
end Go.Proofs.YtpgpjjkeginbbaaGreatDoor.Ck

