/- Bk, Bk2, one behind the other. -/
import Derived.Test.YtpgpjjkeginbbaaGreatDoorMtHp
import Derived.Test.YtpgpjjkeginbbaaGreatDoorMtSp
import Derived.Test.YtpgpjjkeginbbaaGreatDoorMtA
import Derived.Test.YtpgpjjkeginbbaaGreatDoorMtPl
namespace Go.Proofs.YtpgpjjkeginbbaaGreatDoor.Bk
open Go.RowKit Go.Proofs BigFrame
open Sh (Pk)
set_option maxHeartbeats 2000000
set_option maxRecDepth 1000000
set_option linter.unusedSimpArgs false
abbrev TH : TypeId := 165
abbrev TQ : TypeId := 175
abbrev TPk : TypeId := 44
abbrev VP (x : Pk) : Value := .agg #[.int .u32 (x.1 : Nat), .int .u32 (x.2.1 : Nat), .int .u64 (x.2.2 : Nat)]
abbrev VB (b : Nat) : Value := .agg #[.pointer (some ⟨b, 0, none⟩)]
abbrev zP : Array Value := #[.int .u32 0, .int .u32 0, .int .u64 0]
/-- Peek of a heap. -/
theorem hq_peek {w : World} {b room c r : Nat} {own : Nat → Prop} {x : Pk} {t : List (Nat × Pk)} (h : HeapP.Hq w b own room c ((r, x) :: t)) :
 Calls Tryz.prog 200 #[.pointer (some ⟨b, 0, none⟩)] w fun e w' => e = .returned (.tuple #[.int .u64 r, VP x, .bool true]) ∧ Upd Nowhere w w' := by
 obtain ⟨v, came, l, s, hh, h1, h2, h3, h4, ho⟩ := h
 cases s with
 | nil => cases h3
 | cons a s =>
   injection h3 with e1 e2
   have h0 := h2.head h1
   obtain ⟨a0, a1, xa, xb, xc⟩ := a
   unfold Cal.itm at e1
   injection e1 with e3 e4
   subst e3
   subst e4
   exact HeapP.peek_some hh h0
theorem hq_none {w : World} {b room c : Nat} {own : Nat → Prop} (h : HeapP.Hq w b own room c []) :
 Calls Tryz.prog 200 #[.pointer (some ⟨b, 0, none⟩)] w fun e w' => e = .returned (.tuple #[.int .u64 0, VP (0, 0, 0), .bool false]) ∧ Upd Nowhere w w' := by
 obtain ⟨v, came, l, s, hh, h1, h2, h3, h4, ho⟩ := h
 cases s with
 | cons a s => cases h3
 | nil =>
   have := h2.none
   subst this
   exact HeapP.peek_empty hh
/-- A method that looks: what it is told of what lies below, it tells. -/
theorem peek_h {w : World} {b r x0 x1 x2 : Nat} {ok : Bool} (HL : ∀ u, Upd Nowhere w u → Hid (Calls Tryz.prog 200 #[.pointer (some ⟨b, 0, none⟩)] u fun e w' => e = .returned (.tuple #[.int .u64 r, VP (x0, x1, x2), .bool ok]) ∧ Upd Nowhere u w')) :
 Calls Tryz.prog 206 #[VB b] w fun e w' => e = .returned (.tuple #[.int .u64 r, VP (x0, x1, x2), .bool ok]) ∧ Upd Nowhere w w' := by
 have hU : Upd Nowhere w ((w.alloc (.cells #[.pointer (some ⟨b, 0, none⟩)] TH)).alloc (.cells zP TPk)) := ((Upd.refl _ _).alloc _).alloc _
 have hN : Blk ((w.alloc (.cells #[.pointer (some ⟨b, 0, none⟩)] TH)).alloc (.cells zP TPk)) (w.heap.size + 1) zP TPk := Blk.new2 _ _ _ _
 have HC := HL _ hU
 clear HL
 go_enter Tryz.func206, Tryz.ntmps206
 go_wp2_with fail
 refine (HC.out).mono ?_
 rintro e w1 ⟨rfl, hu⟩
 have hU1 := hU.trans hu (fun _ _ h => h)
 obtain ⟨c0, c1, c2, z0, z1, z2⟩ := cells3 (hN.kept hu id)
 clear hU hN hu HC
 go_wp2_with fail
 exact bodyPost_ret (v := .tuple #[.int .u64 r, .agg #[.int .u32 x0, .int .u32 x1, .int .u64 x2], .bool ok]) (by simp [results, Tryz.results206, go_sem, c0, c1, c2]) rfl ⟨rfl, (by repeat (first | with_reducible exact hU1 | with_reducible refine Upd.drewN ?_ _ | with_reducible refine Upd.drew ?_ | with_reducible refine Upd.setNew ?_ (Nat.le_succ _) _))⟩
theorem peek_q {w : World} {b r x0 x1 x2 : Nat} {ok : Bool} (HL : ∀ u, Upd Nowhere w u → Hid (Calls Tryz.prog 244 #[.pointer (some ⟨b, 0, none⟩)] u fun e w' => e = .returned (.tuple #[.int .u64 r, VP (x0, x1, x2), .bool ok]) ∧ Upd Nowhere u w')) :
 Calls Tryz.prog 241 #[VB b] w fun e w' => e = .returned (.tuple #[.int .u64 r, VP (x0, x1, x2), .bool ok]) ∧ Upd Nowhere w w' := by
 have hU : Upd Nowhere w ((w.alloc (.cells #[.pointer (some ⟨b, 0, none⟩)] TQ)).alloc (.cells zP TPk)) := ((Upd.refl _ _).alloc _).alloc _
 have hN : Blk ((w.alloc (.cells #[.pointer (some ⟨b, 0, none⟩)] TQ)).alloc (.cells zP TPk)) (w.heap.size + 1) zP TPk := Blk.new2 _ _ _ _
 have HC := HL _ hU
 clear HL
 go_enter Tryz.func241, Tryz.ntmps241
 go_wp2_with fail
 refine (HC.out).mono ?_
 rintro e w1 ⟨rfl, hu⟩
 have hU1 := hU.trans hu (fun _ _ h => h)
 obtain ⟨c0, c1, c2, z0, z1, z2⟩ := cells3 (hN.kept hu id)
 clear hU hN hu HC
 go_wp2_with fail
 exact bodyPost_ret (v := .tuple #[.int .u64 r, .agg #[.int .u32 x0, .int .u32 x1, .int .u64 x2], .bool ok]) (by simp [results, Tryz.results241, go_sem, c0, c1, c2]) rfl ⟨rfl, (by repeat (first | with_reducible exact hU1 | with_reducible refine Upd.drewN ?_ _ | with_reducible refine Upd.drew ?_ | with_reducible refine Upd.setNew ?_ (Nat.le_succ _) _))⟩
/-- A method that turns what lies below; S is what the call below leaves. -/
theorem pop_h {w : World} {b : Nat} {V : Value} {S : World → Prop} (HL : ∀ u, Upd Nowhere w u → Hid (Calls Tryz.prog 201 #[.pointer (some ⟨b, 0, none⟩)] u fun e w' => e = .returned V ∧ S w')) :
 Calls Tryz.prog 207 #[VB b] w fun e w' => e = .returned (.tuple #[]) ∧ S w' := by
 have HC := HL _ ((Upd.refl _ w).alloc (.cells #[.pointer (some ⟨b, 0, none⟩)] TH))
 clear HL
 go_enter Tryz.func207, Tryz.ntmps207
 go_wp2_with fail
 refine (HC.out).mono ?_
 rintro e w1 ⟨rfl, hs⟩
 go_wp2_with fail
 go_end0
 exact ⟨rfl, hs⟩
theorem pop_q {w : World} {b : Nat} {V : Value} {S : World → Prop} (HL : ∀ u, Upd Nowhere w u → Hid (Calls Tryz.prog 245 #[.pointer (some ⟨b, 0, none⟩)] u fun e w' => e = .returned V ∧ S w')) :
 Calls Tryz.prog 242 #[VB b] w fun e w' => e = .returned (.tuple #[]) ∧ S w' := by
 have HC := HL _ ((Upd.refl _ w).alloc (.cells #[.pointer (some ⟨b, 0, none⟩)] TQ))
 clear HL
 go_enter Tryz.func242, Tryz.ntmps242
 go_wp2_with fail
 refine (HC.out).mono ?_
 rintro e w1 ⟨rfl, hs⟩
 go_wp2_with fail
 go_end0
 exact ⟨rfl, hs⟩
theorem push_h {w : World} {b r x0 x1 x2 : Nat} {V : Value} {S : World → Prop} (HL : ∀ u, Upd Nowhere w u → Hid (Calls Tryz.prog 202 #[.pointer (some ⟨b, 0, none⟩), .int .u64 r, VP (x0, x1, x2)] u fun e w' => e = .returned V ∧ S w')) :
 Calls Tryz.prog 208 #[VB b, .int .u64 r, VP (x0, x1, x2)] w fun e w' => e = .returned (.tuple #[]) ∧ S w' := by
 have HC := HL _ (((Upd.refl _ w).alloc (.cells #[.pointer (some ⟨b, 0, none⟩)] TH)).alloc (.cells #[.int .u32 x0, .int .u32 x1, .int .u64 x2] TPk))
 clear HL
 go_enter Tryz.func208, Tryz.ntmps208
 go_wp2_with fail
 refine (HC.out).mono ?_
 rintro e w1 ⟨rfl, hs⟩
 go_wp2_with fail
 go_end0
 exact ⟨rfl, hs⟩
theorem push_q {w : World} {b r x0 x1 x2 : Nat} {V : Value} {S : World → Prop} (HL : ∀ u, Upd Nowhere w u → Hid (Calls Tryz.prog 246 #[.pointer (some ⟨b, 0, none⟩), .int .u64 r, VP (x0, x1, x2)] u fun e w' => e = .returned V ∧ S w')) :
 Calls Tryz.prog 243 #[VB b, .int .u64 r, VP (x0, x1, x2)] w fun e w' => e = .returned (.tuple #[]) ∧ S w' := by
 have HC := HL _ (((Upd.refl _ w).alloc (.cells #[.pointer (some ⟨b, 0, none⟩)] TQ)).alloc (.cells #[.int .u32 x0, .int .u32 x1, .int .u64 x2] TPk))
 clear HL
 go_enter Tryz.func243, Tryz.ntmps243
 go_wp2_with fail
 refine (HC.out).mono ?_
 rintro e w1 ⟨rfl, hs⟩
 go_wp2_with fail
 go_end0
 exact ⟨rfl, hs⟩
end Go.Proofs.YtpgpjjkeginbbaaGreatDoor.Bk
namespace Go.Proofs.YtpgpjjkeginbbaaGreatDoor.Bk
open Go.RowKit Go.Proofs BigFrame
open Sh (Pk)
set_option maxHeartbeats 2000000
set_option maxRecDepth 1000000
set_option linter.unusedSimpArgs false
/-- Whatever lies behind the interface: its methods, and what each does. -/
structure Meth (R : World → Value → (Nat → Prop) → Nat → Nat → Sh.Bk → Prop) (Pu : Sh.Bk → Nat → Prop) (As : Sh.Bk → Prop) (Ev : World → (Nat → Prop) → Prop) (v : Value) (T : TypeId) (V : Value) (fp fk fo : FuncId) : Prop where
 eq : v = .iface T V
 mp : ∀ (n : Nat) u, (method (n + 1) T V "pacemaker/shaper.push").run Tryz.prog u = .ok (fp, V) u
 mh : ∀ (n : Nat) u, (method (n + 1) T V "pacemaker/shaper.peek").run Tryz.prog u = .ok (fk, V) u
 mo : ∀ (n : Nat) u, (method (n + 1) T V "pacemaker/shaper.pop").run Tryz.prog u = .ok (fo, V) u
 ep : ∀ args u, (callFunc fp args).run Tryz.prog u = .ok (.enter fp args) u
 eh : ∀ args u, (callFunc fk args).run Tryz.prog u = .ok (.enter fk args) u
 eo : ∀ args u, (callFunc fo args).run Tryz.prog u = .ok (.enter fo args) u
 cp : ∀ {u own room c b}, R u v own room c b → b.len < room → c < 18446744073709551615 → ∀ (r : Nat) (x : Pk), r ≤ 18446744073709551615 → Pu b r → Calls Tryz.prog fp #[V, .int .u64 r, VP x] u fun e w' => e = .returned (.tuple #[]) ∧ ∃ own', R w' v own' room (c + 1) (b.push r x) ∧ Fol u own w' own'
 ch : ∀ {u own room c b r x}, R u v own room c b → b.peek = some (r, x) → As b → Ev u own → Calls Tryz.prog fk #[V] u fun e w' => e = .returned (.tuple #[.int .u64 r, VP x, .bool true]) ∧ ∃ own', R w' v own' room c b ∧ Fol u own w' own'
 cn : ∀ {u own room c b}, R u v own room c b → b.peek = none → As b → Calls Tryz.prog fk #[V] u fun e w' => e = .returned (.tuple #[.int .u64 0, VP (0, 0, 0), .bool false]) ∧ Upd Nowhere u w'
 co : ∀ {u own room c b r x}, R u v own room c b → b.peek = some (r, x) → As b → Ev u own → Calls Tryz.prog fo #[V] u fun e w' => e = .returned (.tuple #[]) ∧ ∃ own', R w' v own' room c b.pop ∧ Fol u own w' own'
/-- A way in which backends lie in memory; what may be pushed, where may be asked. -/
structure Laws (R : World → Value → (Nat → Prop) → Nat → Nat → Sh.Bk → Prop) where
 Pu : Sh.Bk → Nat → Prop
 As : Sh.Bk → Prop
 Ev : World → (Nat → Prop) → Prop
 evf : ∀ {w w' own own'}, Ev w own → Fol w own w' own' → Ev w' own'
 evs : ∀ {w own o}, Ev w own → (∀ k, o k → own k) → Ev w o
 kept : ∀ {w w' v own room c b} {S : Nat → Prop}, R w v own room c b → Upd S w w' → (∀ k, own k → ¬ S k) → R w' v own room c b
 lts : ∀ {w v own room c b k}, R w v own room c b → own k → k < w.heap.size
 meth : ∀ {w v own room c b}, R w v own room c b → ∃ T V fp fk fo, Meth R Pu As Ev v T V fp fk fo
/-- A heap, or queues. -/
def Bq (w : World) (v : Value) (own : Nat → Prop) (room c : Nat) (b : Sh.Bk) : Prop := match b with
 | .srt M => ∃ k, v = .iface TH (VB k) ∧ HeapP.Hq w k own room c M
 | .qs n bs q => ∃ s gq gb cq rb rg, v = .iface TQ (VB s) ∧ SpIn RingP.KI 4 SpP.TS RingP.TR RingP.TE SpP.PT SpP.TU w s gq gb cq n room (tot q n) rb rg bs q ∧ Fit n bs ∧ tot q n ≤ room ∧ ∀ k, own k ↔ SpOf s gq gb n rb rg k
theorem bq_kept {w w' : World} {v : Value} {own S : Nat → Prop} {room c : Nat} {b : Sh.Bk} (h : Bq w v own room c b) (hu : Upd S w w') (hS : ∀ k, own k → ¬ S k) : Bq w' v own room c b := by
 cases b with
 | srt M => obtain ⟨k, e, h⟩ := h; exact ⟨k, e, h.kept hu hS⟩
 | qs n bs q => obtain ⟨s, gq, gb, cq, rb, rg, e, h1, h2, h3, h4⟩ := h; exact ⟨s, gq, gb, cq, rb, rg, e, h1.kept hu (fun k hk => hS k ((h4 k).2 hk)), h2, h3, h4⟩
theorem bq_lts {w : World} {v : Value} {own : Nat → Prop} {room c k : Nat} {b : Sh.Bk} (h : Bq w v own room c b) (hk : own k) : k < w.heap.size := by
 cases b with
 | srt M => obtain ⟨_, e, h⟩ := h; exact h.lts hk
 | qs n bs q => obtain ⟨s, gq, gb, cq, rb, rg, e, h1, h2, h3, h4⟩ := h; exact h1.lts ((h4 k).1 hk)
/-- What is there is a heap. -/
theorem bq_h {w : World} {k : Nat} {own : Nat → Prop} {room c : Nat} {b : Sh.Bk} (h : Bq w (.iface TH (VB k)) own room c b) : ∃ M, b = .srt M ∧ HeapP.Hq w k own room c M := by
 cases b with
 | srt M => obtain ⟨k', e, h⟩ := h; cases e; exact ⟨M, rfl, h⟩
 | qs n bs q => obtain ⟨s, gq, gb, cq, rb, rg, e, _⟩ := h; cases e
theorem bq_q {w : World} {s : Nat} {own : Nat → Prop} {room c : Nat} {b : Sh.Bk} (h : Bq w (.iface TQ (VB s)) own room c b) : ∃ n bs q gq gb cq rb rg, b = .qs n bs q ∧ SpIn RingP.KI 4 SpP.TS RingP.TR RingP.TE SpP.PT SpP.TU w s gq gb cq n room (tot q n) rb rg bs q ∧ Fit n bs ∧ tot q n ≤ room ∧ ∀ k, own k ↔ SpOf s gq gb n rb rg k := by
 cases b with
 | srt M => obtain ⟨k', e, h⟩ := h; cases e
 | qs n bs q => obtain ⟨s', gq, gb, cq, rb, rg, e, h1, h2, h3, h4⟩ := h; cases e; exact ⟨n, bs, q, gq, gb, cq, rb, rg, rfl, h1, h2, h3, h4⟩
theorem meth_h (k : Nat) : Meth Bq (fun _ _ => True) (fun _ => True) (fun _ _ => True) (.iface TH (VB k)) TH (VB k) 208 206 207 where
 eq := rfl
 mp := fun _ _ => by kernel_rfl
 mh := fun _ _ => by kernel_rfl
 mo := fun _ _ => by kernel_rfl
 ep := fun _ _ => by kernel_rfl
 eh := fun _ _ => by kernel_rfl
 eo := fun _ _ => by kernel_rfl
 cp := fun {u own room c b} h hl hc r x _ _ => by
  obtain ⟨M, rfl, hm⟩ := bq_h h
  obtain ⟨x0, x1, x2⟩ := x
  refine push_h (V := .bool true) (S := fun w' => ∃ own', Bq w' _ own' room (c + 1) (Sh.Bk.push (.srt M) r (x0, x1, x2)) ∧ Fol u own w' own') (fun u' hu => Lib.hid ?_)
  refine (HeapP.q_push (hm.kept hu (fun _ _ h => h)) hl hc r (x0, x1, x2)).mono ?_
  rintro e w' ⟨rfl, ⟨own', h1, h2⟩, h3⟩
  exact ⟨rfl, own', ⟨k, rfl, h1⟩, ⟨fun j hj => (h2 j hj).imp id (fun h => Nat.le_trans hu.size h), (hu.any _).trans h3 (fun _ _ h => h)⟩⟩
 ch := fun {u own room c b r x} h hp _ _ => by
  obtain ⟨M, rfl, hm⟩ := bq_h h
  obtain ⟨x0, x1, x2⟩ := x
  cases M with
  | nil => cases hp
  | cons a t =>
    cases hp
    exact (peek_h (fun u' hu => Lib.hid (hq_peek (hm.kept hu (fun _ _ h => h))))).mono (fun e w' ⟨h1, h2⟩ => ⟨h1, own, bq_kept h h2 (fun _ _ h => h), (Fol.refl u own).old h2⟩)
 cn := fun {u own room c b} h hp _ => by
  obtain ⟨M, rfl, hm⟩ := bq_h h
  cases M with
  | nil => exact peek_h (x0 := 0) (x1 := 0) (x2 := 0) (fun u' hu => Lib.hid (hq_none (hm.kept hu (fun _ _ h => h))))
  | cons a t => cases hp
 co := fun {u own room c b r x} h hp _ _ => by
  obtain ⟨M, rfl, hm⟩ := bq_h h
  cases M with
  | nil => cases hp
  | cons a t =>
    cases hp
    refine pop_h (V := .tuple #[.int .u64 r, VP x, .bool true]) (S := fun w' => ∃ own', Bq w' _ own' room c (.srt t) ∧ Fol u own w' own') (fun u' hu => Lib.hid ?_)
    refine (HeapP.q_pop (hm.kept hu (fun _ _ h => h))).mono ?_
    rintro e w' ⟨rfl, ⟨own', h1, h2⟩, h3⟩
    exact ⟨rfl, own', ⟨k, rfl, h1⟩, ⟨fun j hj => (h2 j hj).imp id (fun h => Nat.le_trans hu.size h), (hu.any _).trans h3 (fun _ _ h => h)⟩⟩
theorem meth_q (s : Nat) : Meth Bq (fun _ _ => True) (fun _ => True) (fun _ _ => True) (.iface TQ (VB s)) TQ (VB s) 243 241 242 where
 eq := rfl
 mp := fun _ _ => by kernel_rfl
 mh := fun _ _ => by kernel_rfl
 mo := fun _ _ => by kernel_rfl
 ep := fun _ _ => by kernel_rfl
 eh := fun _ _ => by kernel_rfl
 eo := fun _ _ => by kernel_rfl
 cp := fun {u own room c b} h hl hc r x hr _ => by
  obtain ⟨n, bs, q, gq, gb, cq, rb, rg, rfl, h1, h2, h3, h4⟩ := bq_q h
  obtain ⟨x0, x1, x2⟩ := x
  have hnp := h1.npos
  refine push_q (V := .tuple #[.int .i64 (pick bs r (n - 1) : Nat), .bool true]) (S := fun w' => ∃ own', Bq w' _ own' room (c + 1) (Sh.Bk.push (.qs n bs q) r (x0, x1, x2)) ∧ Fol u own w' own') (fun u' hu => Lib.hid ?_)
  refine (SpP.push_room u' s gq gb cq n room (tot q n) rb rg bs q r x0 x1 x2 (h1.old hu) hl h2 hr rfl).mono ?_
  rintro e w' ⟨rfl, g', hS, hl2, hu2⟩
  have hpl := pick_le bs r (n - 1)
  have ht := tot_upd q (pick bs r (n - 1)) (q (pick bs r (n - 1)) ++ [(r, x0, x1, x2)]) n (by omega)
  have ht2 : tot (upd q (pick bs r (n - 1)) (q (pick bs r (n - 1)) ++ [(r, x0, x1, x2)])) n = tot q n + 1 := by simp at ht; omega
  have hl3 : tot q n < room := hl
  refine ⟨rfl, _, ⟨s, gq, gb, cq, rb, _, rfl, by rw [ht2]; exact hS, h2.pushed hnp hr, by omega, fun _ => Iff.rfl⟩, ⟨fun j hj => (hl2 j hj).imp (h4 j).2 (fun h => Nat.le_trans hu.size h), (hu.any _).trans (hu2.mono fun j _ hj => (h4 j).2 hj) (fun _ _ h => h)⟩⟩
 ch := fun {u own room c b r x} h hp _ _ => by
  obtain ⟨n, bs, q, gq, gb, cq, rb, rg, rfl, h1, h2, h3, h4⟩ := bq_q h
  obtain ⟨x0, x1, x2⟩ := x
  unfold Sh.Bk.peek at hp
  dsimp only at hp
  cases hf : Sh.fstQ q n 0 with
  | none => rw [hf] at hp; cases hp
  | some k =>
    rw [hf] at hp
    dsimp only at hp
    obtain ⟨_, a1, a2, a3⟩ := Sh.fstQ_some hf
    cases hq : q k with
    | nil => rw [hq] at hp; cases hp
    | cons a t =>
      rw [hq] at hp
      cases hp
      exact (peek_q (fun u' hu => Lib.hid (SpP.peek_some u' s gq gb cq n room (tot q n) rb rg bs q k r x0 x1 x2 t (h1.old hu) (by omega) (fun j hj => a3 j (Nat.zero_le _) hj) hq))).mono (fun e w' ⟨h5, h6⟩ => ⟨h5, own, bq_kept h h6 (fun _ _ h => h), (Fol.refl u own).old h6⟩)
 cn := fun {u own room c b} h hp _ => by
  obtain ⟨n, bs, q, gq, gb, cq, rb, rg, rfl, h1, h2, h3, h4⟩ := bq_q h
  unfold Sh.Bk.peek at hp
  dsimp only at hp
  cases hf : Sh.fstQ q n 0 with
  | none => exact peek_q (x0 := 0) (x1 := 0) (x2 := 0) (fun u' hu => Lib.hid (SpP.peek_none u' s gq gb cq n room (tot q n) rb rg bs q (h1.old hu) (fun j hj => Sh.fstQ_none hf j (Nat.zero_le _) (by omega))))
  | some k =>
    rw [hf] at hp
    dsimp only at hp
    obtain ⟨_, a1, a2, a3⟩ := Sh.fstQ_some hf
    cases hq : q k with
    | nil => rw [hq] at a2; exact absurd rfl a2
    | cons a t => rw [hq] at hp; cases hp
 co := fun {u own room c b r x} h hp _ _ => by
  obtain ⟨n, bs, q, gq, gb, cq, rb, rg, rfl, h1, h2, h3, h4⟩ := bq_q h
  obtain ⟨x0, x1, x2⟩ := x
  unfold Sh.Bk.peek at hp
  dsimp only at hp
  cases hf : Sh.fstQ q n 0 with
  | none => rw [hf] at hp; cases hp
  | some k =>
    rw [hf] at hp
    dsimp only at hp
    obtain ⟨_, a1, a2, a3⟩ := Sh.fstQ_some hf
    cases hq : q k with
    | nil => rw [hq] at hp; cases hp
    | cons a t =>
      rw [hq] at hp
      cases hp
      have hkn : k < n := by omega
      have ht := tot_upd q k t n hkn
      rw [hq] at ht
      have ht1 := tot_le q hkn
      rw [hq] at ht1
      simp only [List.length_cons] at ht ht1
      have ht2 : tot (upd q k t) n = tot q n - 1 := by omega
      have e : Sh.Bk.pop (.qs n bs q) = .qs n bs (upd q k t) := by unfold Sh.Bk.pop; dsimp only; rw [hf]; dsimp only; rw [hq]; rfl
      rw [e]
      refine pop_q (V := .tuple #[.int .u64 r, VP (x0, x1, x2), .bool true]) (S := fun w' => ∃ own', Bq w' _ own' room c (.qs n bs (upd q k t)) ∧ Fol u own w' own') (fun u' hu => Lib.hid ?_)
      refine (SpP.pop_some u' s gq gb cq n room (tot q n) rb rg bs q k r x0 x1 x2 t (h1.old hu) hkn (fun j hj => a3 j (Nat.zero_le _) hj) hq (by omega) h3).mono ?_
      rintro e w' ⟨rfl, g', hS, hl2, hu2⟩
      refine ⟨rfl, _, ⟨s, gq, gb, cq, rb, _, rfl, by rw [ht2]; exact hS, h2, by omega, fun _ => Iff.rfl⟩, ⟨fun j hj => (hl2 j hj).imp (h4 j).2 (fun h => Nat.le_trans hu.size h), (hu.any _).trans (hu2.mono fun j _ hj => (h4 j).2 hj) (fun _ _ h => h)⟩⟩
def bq_laws : Laws Bq where
 Pu := fun _ _ => True
 As := fun _ => True
 Ev := fun _ _ => True
 evf := fun _ _ => trivial
 evs := fun _ _ => trivial
 kept := bq_kept
 lts := bq_lts
 meth := fun {w v own room c b} h => by
  cases b with
  | srt M => obtain ⟨k, rfl, _⟩ := h; exact ⟨_, _, _, _, _, meth_h k⟩
  | qs n bs q => obtain ⟨s, gq, gb, cq, rb, rg, rfl, _⟩ := h; exact ⟨_, _, _, _, _, meth_q s⟩
end Go.Proofs.YtpgpjjkeginbbaaGreatDoor.Bk

