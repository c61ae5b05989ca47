/- Ck, one behind the other. -/
import Derived.Test.YtpgpjjkeginbbaaGreatMtCal
import Derived.Test.YtpgpjjkeginbbaaGreatMtBk
import Derived.Test.YtpgpjjkeginbbaaGreatMtSh8
namespace Go.Proofs.YtpgpjjkeginbbaaGreat.Ck
open Go.RowKit Go.Proofs BigFrame
open Sh (Pk Cg)
open Gt (VC TCg cgs)
open Bk (VP VB zP TPk)
open CalP (StP)
set_option maxHeartbeats 4000000
set_option maxRecDepth 1000000
set_option linter.unusedSimpArgs false
abbrev TC : TypeId := 110
theorem peek_c {w : World} {b r x0 x1 x2 : Nat} {ok : Bool} (HL : ∀ u, Upd Nowhere w u → Hid (Calls Tryz.prog 148 #[.pointer (some ⟨b, 0, none⟩)] u fun e w' => e = .returned (.tuple #[.int .u64 r, VP (x0, x1, x2), .bool ok]) ∧ Upd Nowhere u w')) :
    Calls Tryz.prog 145 #[VB b] w fun e w' => e = .returned (.tuple #[.int .u64 r, VP (x0, x1, x2), .bool ok]) ∧ Upd Nowhere w w' := by
  have hU : Upd Nowhere w ((w.alloc (.cells #[.pointer (some ⟨b, 0, none⟩)] TC)).alloc (.cells zP TPk)) := ((Upd.refl _ _).alloc _).alloc _
  have hN : Blk ((w.alloc (.cells #[.pointer (some ⟨b, 0, none⟩)] TC)).alloc (.cells zP TPk)) (w.heap.size + 1) zP TPk := Blk.new2 _ _ _ _
  have HC := HL _ hU
  clear HL
  go_enter Tryz.func145, Tryz.ntmps145
  go_wp2_with fail
  refine (HC.out).mono ?_
  rintro e w1 ⟨rfl, hu⟩
  have hU1 := hU.trans hu (fun _ _ h => h)
  obtain ⟨c0, c1, c2, z0, z1, z2⟩ := cells3 (hN.kept hu id)
  clear hU hN hu HC
  go_wp2_with fail
  exact bodyPost_ret (v := .tuple #[.int .u64 r, .agg #[.int .u32 x0, .int .u32 x1, .int .u64 x2], .bool ok]) (by simp [results, Tryz.results145, go_sem, c0, c1, c2]) rfl ⟨rfl, (by repeat (first | with_reducible exact hU1 | with_reducible refine Upd.drewN ?_ _ | with_reducible refine Upd.drew ?_ | with_reducible refine Upd.setNew ?_ (Nat.le_succ _) _))⟩
theorem pop_c {w : World} {b : Nat} {V : Value} {S : World → Prop} (HL : ∀ u, Upd Nowhere w u → Hid (Calls Tryz.prog 149 #[.pointer (some ⟨b, 0, none⟩)] u fun e w' => e = .returned V ∧ S w')) :
    Calls Tryz.prog 146 #[VB b] w fun e w' => e = .returned (.tuple #[]) ∧ S w' := by
  have HC := HL _ ((Upd.refl _ w).alloc (.cells #[.pointer (some ⟨b, 0, none⟩)] TC))
  clear HL
  go_enter Tryz.func146, Tryz.ntmps146
  go_wp2_with fail
  refine (HC.out).mono ?_
  rintro e w1 ⟨rfl, hs⟩
  go_wp2_with fail
  go_end0
  exact ⟨rfl, hs⟩
theorem push_c {w : World} {b r x0 x1 x2 : Nat} {V : Value} {S : World → Prop} (HL : ∀ u, Upd Nowhere w u → Hid (Calls Tryz.prog 150 #[.pointer (some ⟨b, 0, none⟩), .int .u64 r, VP (x0, x1, x2)] u fun e w' => e = .returned V ∧ S w')) :
    Calls Tryz.prog 147 #[VB b, .int .u64 r, VP (x0, x1, x2)] w fun e w' => e = .returned (.tuple #[]) ∧ S w' := by
  have HC := HL _ (((Upd.refl _ w).alloc (.cells #[.pointer (some ⟨b, 0, none⟩)] TC)).alloc (.cells #[.int .u32 x0, .int .u32 x1, .int .u64 x2] TPk))
  clear HL
  go_enter Tryz.func147, Tryz.ntmps147
  go_wp2_with fail
  refine (HC.out).mono ?_
  rintro e w1 ⟨rfl, hs⟩
  go_wp2_with fail
  go_end0
  exact ⟨rfl, hs⟩
/-- A calendar that has none, or one at its window's begin (of rank 20), or that one and one below. -/
def Ck (w : World) (v : Value) (own : Nat → Prop) (room c : Nat) (b : Sh.Bk) : Prop :=
  ∃ M cb sb pb bb ab base N n X B W R, b = .srt M ∧ v = .iface TC (VB cb) ∧ StP w own cb sb pb bb ab room base N n c X B W R M ∧ (M.length = 0 ∨ (M.length = 1 ∧ B = [] ∧ base = 20) ∨ (M.length = 2 ∧ B.length = 1 ∧ base = 20))
theorem ck_of {w : World} {k : Nat} {own : Nat → Prop} {room c : Nat} {b : Sh.Bk} (h : Ck w (.iface TC (VB k)) own room c b) :
    ∃ M sb pb bb ab base N n X B W R, b = .srt M ∧ StP w own k sb pb bb ab room base N n c X B W R M ∧ (M.length = 0 ∨ (M.length = 1 ∧ B = [] ∧ base = 20) ∨ (M.length = 2 ∧ B.length = 1 ∧ base = 20)) := by
  obtain ⟨M, cb, sb, pb, bb, ab, base, N, n, X, B, W, R, e1, e2, h⟩ := h
  cases e2
  exact ⟨M, sb, pb, bb, ab, base, N, n, X, B, W, R, e1, h⟩
/-- What may be pushed there. -/
def PuC (b : Sh.Bk) (r : Nat) : Prop := (b.len = 0 ∧ r = 20) ∨ (b.len = 1 ∧ r = 10)
def AsC (b : Sh.Bk) : Prop := b.len ≠ 1
theorem fol_of {w u w' : World} {own own' : Nat → Prop} (hu : Upd Nowhere w u) (h : Fol u own w' own') : Fol w own w' own' := ((Fol.refl w own).old hu).trans h
theorem meth_c (k : Nat) : Bk.Meth Ck PuC AsC (.iface TC (VB k)) TC (VB k) 147 145 146 where
  eq := rfl
  mp := fun _ _ => by kernel_rfl
  mh := fun _ _ => by kernel_rfl
  mo := fun _ _ => by kernel_rfl
  ep := fun _ _ => by kernel_rfl
  eh := fun _ _ => by kernel_rfl
  eo := fun _ _ => by kernel_rfl
  cp := fun {u own room c b} h hl hc r x hr hpu => by
    obtain ⟨M, sb, pb, bb, ab, base, N, n, X, B, W, R, rfl, hs, hi⟩ := ck_of h
    obtain ⟨x0, x1, x2⟩ := x
    have hl2 : M.length < room := hl
    refine push_c (V := .bool true) (S := fun w' => ∃ own', Ck w' _ own' room (c + 1) (Sh.Bk.push (.srt M) r (x0, x1, x2)) ∧ Fol u own w' own') (fun u' hu => Lib.hid ?_)
    rcases hpu with ⟨h0, rfl⟩ | ⟨h1, rfl⟩
    · have h00 : M.length = 0 := h0
      obtain rfl : M = [] := List.length_eq_zero_iff.1 h00
      refine (CalP.push_first (hs.old hu) 20 hr x0 x1 x2).mono ?_
      rintro e w' ⟨rfl, own', X', h', hf⟩
      obtain ⟨own2, h2, hf2⟩ := h'.more
      exact ⟨rfl, own2, ⟨_, k, sb, pb, bb, ab, _, _, _, _, _, _, _, rfl, rfl, h2, .inr (.inl ⟨by rw [Cal.ins_len]; rfl, rfl, rfl⟩)⟩, fol_of hu (hf.trans hf2)⟩
    · have h10 : M.length = 1 := h1
      rcases hi with h9 | ⟨_, rfl, rfl⟩ | ⟨h9, _⟩
      · omega
      · refine (CalP.push_more (hs.old hu) hl2 (by omega) hc 10 hr x0 x1 x2).mono ?_
        rintro e w' ⟨rfl, own', b', n', X', B', W', R', h', hf, hx⟩
        obtain ⟨rfl, rfl, rfl, rfl, rfl, rfl⟩ := hx (by omega)
        exact ⟨rfl, own', ⟨_, k, sb, pb, bb, ab, _, _, _, _, _, _, _, rfl, rfl, h', .inr (.inr ⟨by rw [Cal.ins_len, h10], by rw [Cal.ins_len]; rfl, rfl⟩)⟩, fol_of hu hf⟩
      · omega
  ch := fun {u own room c b r x} h hp has => by
    obtain ⟨M, sb, pb, bb, ab, base, N, n, X, B, W, R, rfl, hs, hi⟩ := ck_of h
    obtain ⟨x0, x1, x2⟩ := x
    have has2 : M.length ≠ 1 := has
    cases M with
    | nil => cases hp
    | cons a t =>
      cases hp
      have hB : B ≠ [] := by
        rcases hi with h9 | ⟨h9, _⟩ | ⟨_, h9, _⟩
        · simp at h9
        · exact absurd h9 has2
        · intro e; rw [e] at h9; cases h9
      refine peek_c (fun u' hu => Lib.hid ?_)
      refine (CalP.peek_full (hs.old hu) (fun e => absurd e hB) (fun e => absurd e hB)).mono ?_
      rintro e w' ⟨rfl, hpk⟩
      unfold CalP.Peeked at hpk
      obtain ⟨_, _, _, _, _, _, _, _, _, hE⟩ := hpk
      exact ⟨rfl, (hE hB).1⟩
  cn := fun {u own room c b} h hp has => by
    obtain ⟨M, sb, pb, bb, ab, base, N, n, X, B, W, R, rfl, hs, hi⟩ := ck_of h
    cases M with
    | nil => exact peek_c (x0 := 0) (x1 := 0) (x2 := 0) (fun u' hu => Lib.hid (CalP.peek_empty (hs.old hu)))
    | cons a t => cases hp
  co := fun {u own room c b r x} h hp has => by
    obtain ⟨M, sb, pb, bb, ab, base, N, n, X, B, W, R, rfl, hs, hi⟩ := ck_of h
    obtain ⟨x0, x1, x2⟩ := x
    have has2 : M.length ≠ 1 := has
    cases M with
    | nil => cases hp
    | cons a t =>
      cases hp
      have hB : t.length = 1 ∧ B.length = 1 ∧ base = 20 := by
        rcases hi with h9 | ⟨h9, _⟩ | ⟨h8, h9, h7⟩
        · simp at h9
        · exact absurd h9 has2
        · exact ⟨by simpa using h8, h9, h7⟩
      have hB2 : B ≠ [] := fun e => by rw [e] at hB; cases hB.2.1
      refine pop_c (V := .tuple #[.int .u64 r, VP (x0, x1, x2), .bool true]) (S := fun w' => ∃ own', Ck w' _ own' room c (.srt t) ∧ Fol u own w' own') (fun u' hu => Lib.hid ?_)
      refine (CalP.pop_full (hs.old hu) (fun e => absurd e hB2) (fun e => absurd e hB2)).mono ?_
      rintro e w' ⟨rfl, hpk⟩
      unfold CalP.Popped at hpk
      obtain ⟨own', b', n', X', B', W', R', h', hf, hE⟩ := hpk
      obtain ⟨e1, e2, _⟩ := hE hB2
      exact ⟨rfl, own', ⟨_, k, sb, pb, bb, ab, _, _, _, _, _, _, _, rfl, rfl, h', .inr (.inl ⟨hB.1, by rw [e1]; exact List.length_eq_zero_iff.1 (by rw [List.length_tail]; omega), by rw [e2]; exact hB.2.2⟩)⟩, fol_of hu hf⟩
def ck_laws : Bk.Laws Ck where
  Pu := PuC
  As := AsC
  kept := fun h hu hS => by
    obtain ⟨M, cb, sb, pb, bb, ab, base, N, n, X, B, W, R, e1, e2, h, hi⟩ := h
    exact ⟨M, cb, sb, pb, bb, ab, base, N, n, X, B, W, R, e1, e2, h.kp hu hS, hi⟩
  lts := fun h hk => by
    obtain ⟨M, cb, sb, pb, bb, ab, base, N, n, X, B, W, R, e1, e2, h, hi⟩ := h
    exact h.sep.lt hk
  meth := fun {w v own room c b} h => by
    obtain ⟨M, cb, sb, pb, bb, ab, base, N, n, X, B, W, R, e1, e2, h, hi⟩ := h
    subst e2
    exact ⟨_, _, _, _, _, meth_c cb⟩
theorem made_cal {c : Cg} {fv : Value} (hb : c.back = 2) (hp : 1 ≤ c.packets ∧ c.packets ≤ 4096) (hlv : 1 ≤ c.levels ∧ c.levels ≤ 3) (w : World) : Shm.MadeOk Ck c fv w := by
  obtain ⟨room, hr⟩ : ∃ room : Nat, c.packets = room := ⟨c.packets.toNat, by omega⟩
  obtain ⟨lv, hl⟩ : ∃ lv : Nat, c.levels = lv := ⟨c.levels.toNat, by omega⟩
  have e1 : c.packets.toNat = room := by omega
  have e2 : (Sh.st0 c).bk = .srt [] := if_neg (by rw [hb]; decide)
  unfold Shm.MadeOk
  rw [e1, e2]
  have HQ := fun u => Lib.hid (CalP.s_new room lv u (by omega) (by omega) (by omega) (by omega))
  have hU : Upd Nowhere w (w.alloc (.cells (VC c fv) TCg)) := (Upd.refl _ _).alloc _
  have hB : Blk (w.alloc (.cells (VC c fv) TCg)) w.heap.size (VC c fv) TCg := Blk.new _ _ _
  obtain ⟨q0, q1, q2, q3, q4, q5, q6, q7, q8, q9, q10⟩ := cgs hB
  rw [hb] at q1
  rw [hr] at q4
  rw [hl] at q2
  have HU := Lib.hid hU
  clear e1 e2 hb hU q0 q3 q5 q6 q7 q8 q9 q10 hB
  go_enter Tryz.func25, Tryz.ntmps25
  go_upto_region 1 with fail
  generalize w.alloc (.cells (VC c fv) TCg) = w1 at *
  go_wp2_with fail
  refine (HQ _).out.mono ?_
  rintro e w2 ⟨cb, rfl, ⟨own, h2, h3⟩, u2⟩
  have HR : Hid (Ck w2 (.iface TC (VB cb)) own room 0 (.srt []) ∧ (∀ k, own k → w.heap.size ≤ k) ∧ Upd Nowhere w w2) := Lib.hid ⟨by
    unfold CalP.St at h2
    obtain ⟨sb, pb, bb, ab, base, N, n, X, B, W, R, h⟩ := h2
    exact ⟨[], cb, sb, pb, bb, ab, base, N, n, X, B, W, R, rfl, rfl, h, .inl rfl⟩, fun k hk => Nat.le_trans HU.out.size (h3 k hk), HU.out.trans u2 (fun _ _ h => h)⟩
  clear h2 h3 u2 q1 q2 q4
  go_wp2_with fail
  go_ret
  exact ⟨_, own, rfl, HR.out.1, HR.out.2.1, HR.out.2.2⟩
end Go.Proofs.YtpgpjjkeginbbaaGreat.Ck

