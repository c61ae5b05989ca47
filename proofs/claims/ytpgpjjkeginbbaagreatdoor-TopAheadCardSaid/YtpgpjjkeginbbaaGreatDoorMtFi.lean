/- First, Ea0, Ea1, one behind the other. -/
import Derived.Test.YtpgpjjkeginbbaaGreatDoorMtRw
import Derived.Test.YtpgpjjkeginbbaaGreatDoorMtA
import Derived.Test.YtpgpjjkeginbbaaGreatDoorMtTl
import Derived.Test.YtpgpjjkeginbbaaGreatDoorMtSat
import Derived.Deep.RegionHeld3
import Derived.Deep.RegionWith
namespace Go.Proofs.YtpgpjjkeginbbaaGreatDoor.First
open Go.RowKit Go.Proofs BigFrame RingW
set_option maxHeartbeats 1000000
set_option maxRecDepth 1000000
abbrev TF : TypeId := 235
/-- The row's value: it holds the ring. -/
abbrev VF (b : Nat) : Value := .agg #[.pointer (some ⟨b, 0, none⟩)]
theorem len_f {w : World} {b : Nat} {g : Option Nat} {room : Nat} {xs : List It} (h : RA w b g room xs) :
 Calls Tryz.prog 285 #[VF b] w fun e w' => e = .returned (.int .i64 xs.length) ∧ Upd Nowhere w w' := by
 obtain ⟨fr, len, h⟩ := h
 have h' := h.old ((Upd.refl _ w).alloc (.cells #[.pointer (some ⟨b, 0, none⟩)] TF))
 have HL := Lib.hid (len_any b xs.length _ (h'.blk.cellAt rfl))
 clear h h'
 go_enter Tryz.func285, Tryz.ntmps285
 go_wp2_with fail
 refine (HL.out).mono ?_
 rintro e w' ⟨rfl, rfl⟩
 go_wp2_with fail
 go_ret
 exact ⟨rfl, (Upd.refl _ _).alloc _⟩
theorem head_f {w : World} {b : Nat} {g : Option Nat} {room xf xi xl xa xc : Nat} {xs : List It} (h : RA w b g room ((xf, xi, xl, xa, xc) :: xs)) :
 Calls Tryz.prog 284 #[VF b] w fun e w' => e = .returned (.tuple #[VI (xf, xi, xl, xa, xc), .bool true]) ∧ Upd Nowhere w w' := by
 obtain ⟨fr, len, h⟩ := h
 have hU : Upd Nowhere w ((w.alloc (.cells #[.pointer (some ⟨b, 0, none⟩)] TF)).alloc (.cells zI TE)) := ((Upd.refl _ _).alloc _).alloc _
 have hN : Blk ((w.alloc (.cells #[.pointer (some ⟨b, 0, none⟩)] TF)).alloc (.cells zI TE)) (w.heap.size + 1) zI TE := Blk.new2 _ _ _ _
 have HL := Lib.hid (head_in (h.old hU))
 clear h
 go_enter Tryz.func284, Tryz.ntmps284
 go_wp2_with fail
 refine (HL.out).mono ?_
 rintro e w1 ⟨rfl, hu⟩
 have hU1 := hU.trans hu (fun _ _ h => h)
 obtain ⟨c0, c1, c2, c3, c4, z0, z1, z2, z3, z4⟩ := cells5 (hN.kept hu id)
 clear hU hN hu HL
 go_wp2_with fail
 exact bodyPost_ret (v := .tuple #[.agg #[.int .u32 xf, .int .u32 xi, .int .u64 xl, .int .u64 xa, .int .i64 xc], .bool true]) (by simp [results, Tryz.results284, go_sem, c0, c1, c2, c3, c4]) rfl ⟨rfl, (by repeat (first | with_reducible exact hU1 | with_reducible refine Upd.drewN ?_ _ | with_reducible refine Upd.drew ?_ | with_reducible refine Upd.setNew ?_ (Nat.le_succ _) _))⟩
theorem head_e {w : World} {b : Nat} {g : Option Nat} {room : Nat} (h : RA w b g room []) :
 Calls Tryz.prog 284 #[VF b] w fun e w' => e = .returned (.tuple #[ZI, .bool false]) ∧ Upd Nowhere w w' := by
 obtain ⟨fr, len, h⟩ := h
 have hU : Upd Nowhere w ((w.alloc (.cells #[.pointer (some ⟨b, 0, none⟩)] TF)).alloc (.cells zI TE)) := ((Upd.refl _ _).alloc _).alloc _
 have hN : Blk ((w.alloc (.cells #[.pointer (some ⟨b, 0, none⟩)] TF)).alloc (.cells zI TE)) (w.heap.size + 1) zI TE := Blk.new2 _ _ _ _
 have HL := Lib.hid (head_out ((h.old hU).blk.cellAt rfl))
 clear h
 go_enter Tryz.func284, Tryz.ntmps284
 go_wp2_with fail
 refine (HL.out).mono ?_
 rintro e w1 ⟨rfl, hu⟩
 have hU1 := hU.trans hu (fun _ _ h => h)
 obtain ⟨c0, c1, c2, c3, c4, z0, z1, z2, z3, z4⟩ := cells5 (hN.kept hu id)
 clear hU hN hu HL
 go_wp2_with fail
 exact bodyPost_ret (v := .tuple #[ZI, .bool false]) (by simp [results, Tryz.results284, go_sem, c0, c1, c2, c3, c4]) rfl ⟨rfl, (by repeat (first | with_reducible exact hU1 | with_reducible refine Upd.drewN ?_ _ | with_reducible refine Upd.drew ?_ | with_reducible refine Upd.setNew ?_ (Nat.le_succ _) _))⟩
/-- What a call leaves that changes the ring, and writes its own new block beside it. -/
theorem turned_ret {w w0 w1 w' : World} {b rb : Nat} {g : Option Nat} {room : Nat} {xs : List It} (hu0 : Upd Nowhere w w0) (h : RingW.RingTurned KI 5 TR TE w0 w1 b g room xs) (hl : ∀ k, RingOf b g k → k < w.heap.size)
 (h1 : w.heap.size ≤ rb) (h2 : rb < w0.heap.size) (hu : Upd (fun q => q = rb) w1 w') : RingW.RingTurned KI 5 TR TE w w' b g room xs := by
 obtain ⟨g', a1, a2, a3⟩ := h
 refine ⟨g', a1.kept hu (fun k hk e => ?_), fun k hk => (a2 k hk).imp id (fun h => Nat.le_trans hu0.size h), ((hu0.any _).trans a3 (fun _ _ h => h)).trans hu (fun k hk e => ?_)⟩
 · subst e
   rcases hk with hk | hk
   · have := hl k (.inl hk); omega
   · rcases a2 k hk with h | h
     · have := hl k (.inr h); omega
     · omega
 · omega
theorem push_f {w : World} {b : Nat} {g : Option Nat} {room : Nat} {xs : List It} (h : RA w b g room xs) (hr : xs.length < room) (rank xf xi xl xa xc : Nat) :
 Calls Tryz.prog 286 #[VF b, .int .u64 rank, VI (xf, xi, xl, xa, xc)] w fun e w' => e = .returned (.tuple #[ZI, .bool false, .bool false]) ∧ RingW.RingTurned KI 5 TR TE w w' b g room (xs ++ [(xf, xi, xl, xa, xc)]) := by
 have hlts : ∀ k, RingOf b g k → k < w.heap.size := fun k hk => h.lts hk
 obtain ⟨fr, len, h⟩ := h
 have hU : Upd Nowhere w (((w.alloc (.cells #[.pointer (some ⟨b, 0, none⟩)] TF)).alloc (.cells #[.int .u32 xf, .int .u32 xi, .int .u64 xl, .int .u64 xa, .int .i64 xc] TE)).alloc (.cells zI TE)) := (((Upd.refl _ _).alloc _).alloc _).alloc _
 have hz : ((w.alloc (.cells #[.pointer (some ⟨b, 0, none⟩)] TF)).alloc (.cells #[.int .u32 xf, .int .u32 xi, .int .u64 xl, .int .u64 xa, .int .i64 xc] TE)).heap.size = w.heap.size + 2 := by rw [World.size_alloc, World.size_alloc]
 have hN : Blk (((w.alloc (.cells #[.pointer (some ⟨b, 0, none⟩)] TF)).alloc (.cells #[.int .u32 xf, .int .u32 xi, .int .u64 xl, .int .u64 xa, .int .i64 xc] TE)).alloc (.cells zI TE)) (w.heap.size + 2) zI TE := by rw [← hz]; exact Blk.new _ _ _
 have HL := Lib.hid (put_room (h.old hU) hr xf xi xl xa xc)
 clear h hz
 go_enter Tryz.func286, Tryz.ntmps286
 go_wp2_with fail
 refine (HL.out).mono ?_
 rintro e w1 ⟨rfl, ht⟩
 have hB : Blk w1 (w.heap.size + 2) zI TE := by
  obtain ⟨g', _, _, hu⟩ := ht
  exact hN.kept hu (fun hk => by have := hlts _ hk; omega)
 have HT := Lib.hid (fun w' => turned_ret (w' := w') hU ht hlts (by omega) hN.lt)
 obtain ⟨rb, hrb⟩ : ∃ rb, w.heap.size + 2 = rb := ⟨_, rfl⟩
 have e1 : w.heap.size + 1 + 1 = rb := hrb
 rw [hrb] at hB HT
 obtain ⟨c0, c1, c2, c3, c4, z0, z1, z2, z3, z4⟩ := cells5 hB
 clear hU hN ht HL
 rw [e1]
 clear e1 hrb
 go_wp2_with fail
 refine bodyPost_ret (v := .tuple #[ZI, .bool false, .bool false]) (by simp [results, Tryz.results286, go_sem, c0, c1, c2, c3, c4]) rfl ⟨rfl, HT.out _ ?_⟩
 exact (((((Upd.refl (fun q => q = rb) w1).setCell (a := ⟨rb, 0, none⟩) (fun _ => rfl) _).setCell (a := ⟨rb, 1, none⟩) (fun _ => rfl) _).setCell (a := ⟨rb, 2, none⟩) (fun _ => rfl) _).setCell (a := ⟨rb, 3, none⟩) (fun _ => rfl) _).setCell (a := ⟨rb, 4, none⟩) (fun _ => rfl) _
theorem take_f {w : World} {b : Nat} {g : Option Nat} {room xf xi xl xa xc : Nat} {xs : List It} (h : RA w b g room ((xf, xi, xl, xa, xc) :: xs)) :
 Calls Tryz.prog 287 #[VF b] w fun e w' => e = .returned (VI (xf, xi, xl, xa, xc)) ∧ RingW.RingTurned KI 5 TR TE w w' b g room xs := by
 have hlts : ∀ k, RingOf b g k → k < w.heap.size := fun k hk => h.lts hk
 obtain ⟨fr, len, h⟩ := h
 have hU : Upd Nowhere w ((w.alloc (.cells #[.pointer (some ⟨b, 0, none⟩)] TF)).alloc (.cells zI TE)) := ((Upd.refl _ _).alloc _).alloc _
 have hN : Blk ((w.alloc (.cells #[.pointer (some ⟨b, 0, none⟩)] TF)).alloc (.cells zI TE)) (w.heap.size + 1) zI TE := Blk.new2 _ _ _ _
 have HL := Lib.hid (take_some (h.old hU))
 clear h
 go_enter Tryz.func287, Tryz.ntmps287
 go_wp2_with fail
 refine (HL.out).mono ?_
 rintro e w1 ⟨rfl, ht⟩
 go_upto_region 2 with fail
 have hB : Blk (w1.alloc (.cells #[.int .u32 xf, .int .u32 xi, .int .u64 xl, .int .u64 xa, .int .i64 xc] TE)) (w.heap.size + 1) zI TE := by
  obtain ⟨g', _, _, hu⟩ := ht
  exact (hN.kept hu (fun hk => by have := hlts _ hk; omega)).alloc _
 have hX : Blk (w1.alloc (.cells #[.int .u32 xf, .int .u32 xi, .int .u64 xl, .int .u64 xa, .int .i64 xc] TE)) w1.heap.size #[.int .u32 xf, .int .u32 xi, .int .u64 xl, .int .u64 xa, .int .i64 xc] TE := Blk.new _ _ _
 have ht2 : RingW.RingTurned KI 5 TR TE ((w.alloc (.cells #[.pointer (some ⟨b, 0, none⟩)] TF)).alloc (.cells zI TE)) (w1.alloc (.cells #[.int .u32 xf, .int .u32 xi, .int .u64 xl, .int .u64 xa, .int .i64 xc] TE)) b g room xs := by
  obtain ⟨g', a1, a2, a3⟩ := ht
  exact ⟨g', a1.old ((Upd.refl _ _).alloc _), a2, a3.alloc _⟩
 have HT := Lib.hid (fun w' => turned_ret (rb := w.heap.size + 1) (w' := w') hU ht2 hlts (by omega) hN.lt)
 have hne : w.heap.size + 1 < w1.heap.size := by
  obtain ⟨g', _, _, hu⟩ := ht
  exact Nat.lt_of_lt_of_le hN.lt hu.size
 obtain ⟨rb, hrb⟩ : ∃ rb, w.heap.size + 1 = rb := ⟨_, rfl⟩
 obtain ⟨xk, hxk⟩ : ∃ xk, w1.heap.size = xk := ⟨_, rfl⟩
 rw [hrb] at hB HT hne
 rw [hxk] at hX hne
 try simp only [hrb, hxk]
 clear hU hN ht ht2 HL hrb hxk hlts
 generalize w1.alloc (.cells #[.int .u32 xf, .int .u32 xi, .int .u64 xl, .int .u64 xa, .int .i64 xc] TE) = w2 at *
 obtain ⟨c0, c1, c2, c3, c4, z0, z1, z2, z3, z4⟩ := cells5 hB
 obtain ⟨p0, p1, p2, p3, p4, _, _, _, _, _⟩ := cells5 hX
 clear hB hX
 have hne2 : ¬ rb = xk := by omega
 go_wp2_with fail
 refine bodyPost_ret (v := .agg #[.int .u32 xf, .int .u32 xi, .int .u64 xl, .int .u64 xa, .int .i64 xc]) (by simp [results, Tryz.results287, go_sem, c0, c1, c2, c3, c4]) rfl ⟨rfl, HT.out _ ?_⟩
 exact (((((Upd.refl (fun q => q = rb) w2).setCell (a := ⟨rb, 0, none⟩) (fun _ => rfl) _).setCell (a := ⟨rb, 1, none⟩) (fun _ => rfl) _).setCell (a := ⟨rb, 2, none⟩) (fun _ => rfl) _).setCell (a := ⟨rb, 3, none⟩) (fun _ => rfl) _).setCell (a := ⟨rb, 4, none⟩) (fun _ => rfl) _
/-- The row, as an interface's value. -/
abbrev IF (b : Nat) : Value := .iface TF (VF b)
/-- A class's configuration. -/
structure Cf where
 room : Int
 policy : Int
 credit : Bool
 idle : Int
 send : Int
 high : Int
 el : Nat
 eh : Nat
 em : Nat
 es : Int
 lt : Nat
 li : Nat
 lm : Nat
 window : Int
 num : Nat
 den : Nat
abbrev TCl : TypeId := 68
/-- Its cells. -/
abbrev VC (c : Cf) : Array Value := #[.int .i64 c.room, .int .i64 c.policy, .bool c.credit, .int .i64 c.idle, .int .i64 c.send, .int .i64 c.high, .int .u64 (c.el : Nat), .int .u64 (c.eh : Nat), .int .u64 (c.em : Nat), .int .i64 c.es, .int .u64 (c.lt : Nat), .int .u64 (c.li : Nat), .int .u64 (c.lm : Nat), .int .i64 c.window, .int .u64 (c.num : Nat), .int .u64 (c.den : Nat)]
theorem made_f {w : World} {c : Cf} (hp : c.policy ≠ 4) (h1 : 1 ≤ c.room) (h2 : c.room ≤ 65536) :
 Calls Tryz.prog 42 #[.agg (VC c)] w fun e w' => ∃ b, e = .returned (IF b) ∧ RA w' b none c.room.toNat [] ∧ w.heap.size ≤ b ∧ Upd Nowhere w w' := by
 obtain ⟨r, hr⟩ : ∃ r : Nat, c.room = r := ⟨c.room.toNat, by omega⟩
 have hn := Lib.hid (new_ok (w.alloc (.cells (VC c) TCl)) r (by omega) (by omega))
 have ep : (c.policy == 4) = false := by simpa using hp
 have er : c.room.toNat = r := by omega
 rw [er]
 clear hp h1 h2 er
 obtain ⟨x0, x1, x2, x3, x4, x5, x6, x7, x8, x9, x10, x11, x12, x13, x14, x15⟩ := c
 dsimp only at hr ep hn ⊢
 subst hr
 go_enter Tryz.func42, Tryz.ntmps42
 go_wp2_with fail
 refine (hn.out).mono ?_
 rintro e w1 ⟨rfl, hR, hu⟩
 go_wp2_with fail
 go_ret
 exact ⟨_, rfl, by rw [World.size_alloc] at hR; exact hR, by omega, ((Upd.refl _ _).alloc _).trans hu (fun _ _ h => h)⟩
end Go.Proofs.YtpgpjjkeginbbaaGreatDoor.First
namespace Go.Proofs.YtpgpjjkeginbbaaGreatDoor.Ea
open Go.RowKit Go.Proofs BigFrame
open RingW (It KI zI ZI VI TE RA)
open First (TF VF IF len_f head_f head_e push_f take_f made_f)
open Ah (Ek k0 kin kout pk)
set_option maxHeartbeats 1000000
set_option maxRecDepth 1000000
set_option linter.unusedSimpArgs false
abbrev TK : TypeId := 145
abbrev TP : TypeId := 44
abbrev TEg : TypeId := 130
abbrev TKp : TypeId := 131
abbrev TCl : TypeId := 68
abbrev VP (p : Nat × Nat × Nat) : Value := .agg #[.int .u32 (p.1 : Nat), .int .u32 (p.2.1 : Nat), .int .u64 (p.2.2 : Nat)]
abbrev PBc (p0 p1 p2 : Nat) : Array Value := #[.int .u32 p0, .int .u32 p1, .int .u64 p2]
abbrev zP : Array Value := #[.int .u32 0, .int .u32 0, .int .u64 0]
/-- The cells of a class's configuration: room for all, nothing else. -/
abbrev VC0 : Array Value := #[.int .i64 4096, .int .i64 0, .bool false, .int .i64 0, .int .i64 0, .int .i64 0, .int .u64 0, .int .u64 0, .int .u64 0, .int .i64 0, .int .u64 0, .int .u64 0, .int .u64 0, .int .i64 0, .int .u64 0, .int .u64 0]
/-- The cells of a class. -/
abbrev KC (bys inn left : Nat) (v : Value) : Array Value := #[.int .i64 4096, .int .i64 0, .bool false, .int .i64 0, .int .i64 0, .int .i64 0, .int .u64 0, .int .u64 0, .int .u64 0, .int .i64 0, .int .u64 0, .int .u64 0, .int .u64 0, .int .i64 0, .int .u64 0, .int .u64 0,
 v, .int .u64 (bys : Nat), .int .u64 0, .int .u64 0, .int .u64 0, .int .u64 0, .int .u64 0, .int .u64 0, .bool false, .pointer none, .int .i64 0, .int .i64 0, .int .i64 0, .int .i64 0, .int .i64 (inn : Nat), .int .i64 (left : Nat), .int .i64 0]
/-- A ring at block b, with what it has. -/
def RgP (w : World) (own : Nat → Prop) (b : Nat) (l : List It) : Prop := ∃ g, RA w b g 4096 l ∧ ∀ k, own k ↔ RingOf b g k
def rgC (b : Nat) (l : List It) : Comp := ⟨fun w o => RgP w o b l, fun ⟨g, h2, h3⟩ hu hS => ⟨g, RingW.RingAt.kept h2 hu (fun k hk => hS k ((h3 k).2 hk)), h3⟩, fun ⟨_, h2, h3⟩ hk => RingW.RingAt.lts h2 ((h3 _).1 hk)⟩
/-- A class at block k, its ring at block b. -/
def ClsP (w : World) (own : Nat → Prop) (k b : Nat) (s : Ek) : Prop := Sep w [blkC k (KC s.bys s.inn s.left (IF b)) TK, rgC b s.l] own
def clsC (k b : Nat) (s : Ek) : Comp := ⟨fun w o => ClsP w o k b s, fun h hu hS => Sep.kp hu h hS, fun h hk => Sep.lt h hk⟩
/-- What the class's methods do with its row. -/
theorem ml (b n : Nat) (u : World) : (method (n + 1) TF (VF b) "pacemaker/egress.len").run Tryz.prog u = .ok (285, VF b) u := by kernel_rfl
theorem mh (b n : Nat) (u : World) : (method (n + 1) TF (VF b) "pacemaker/egress.head").run Tryz.prog u = .ok (284, VF b) u := by kernel_rfl
theorem mp (b n : Nat) (u : World) : (method (n + 1) TF (VF b) "pacemaker/egress.push").run Tryz.prog u = .ok (286, VF b) u := by kernel_rfl
theorem mt (b n : Nat) (u : World) : (method (n + 1) TF (VF b) "pacemaker/egress.take").run Tryz.prog u = .ok (287, VF b) u := by kernel_rfl
theorem ring_fol {w w' : World} {b room : Nat} {g : Option Nat} {own : Nat → Prop} {xs : List It} (ho : ∀ k, own k ↔ RingOf b g k) (h : RingW.RingTurned KI 5 RingW.TR TE w w' b g room xs) :
 ∃ g', RA w' b g' room xs ∧ Fol w own w' (RingOf b g') := by
 obtain ⟨g', h1, h2, h3⟩ := h
 refine ⟨g', h1, fun k hk => ?_, h3.mono fun k _ hk => (ho k).2 hk⟩
 rcases hk with rfl | hk
 · exact .inl ((ho _).2 (.inl rfl))
 · exact (h2 k hk).imp (fun h => (ho k).2 (.inr h)) id
section
variable {u : World} {own : Nat → Prop} {b : Nat} {l : List It}
theorem cl (h : RgP u own b l) : Calls Tryz.prog 285 #[VF b] u fun e w' => e = .returned (.int .i64 (l.length : Nat)) ∧ Upd Nowhere u w' := by
 obtain ⟨g, h2, _⟩ := h
 exact len_f h2
theorem ch {x : It} (h : RgP u own b (x :: l)) : Calls Tryz.prog 284 #[VF b] u fun e w' => e = .returned (.tuple #[VI x, .bool true]) ∧ Upd Nowhere u w' := by
 obtain ⟨g, h2, _⟩ := h
 exact head_f h2
theorem ce (h : RgP u own b []) : Calls Tryz.prog 284 #[VF b] u fun e w' => e = .returned (.tuple #[ZI, .bool false]) ∧ Upd Nowhere u w' := by
 obtain ⟨g, h2, _⟩ := h
 exact head_e h2
theorem ct {x : It} (h : RgP u own b (x :: l)) : Calls Tryz.prog 287 #[VF b] u fun e w' => e = .returned (VI x) ∧ ∃ own', RgP w' own' b l ∧ Fol u own w' own' := by
 obtain ⟨g, h2, h3⟩ := h
 refine (take_f h2).mono ?_
 rintro e w' ⟨rfl, ht⟩
 obtain ⟨g', h4, h5⟩ := ring_fol h3 ht
 exact ⟨rfl, _, ⟨g', h4, fun _ => Iff.rfl⟩, h5⟩
theorem cp (h : RgP u own b l) (hr : l.length < 4096) (rank : Nat) (x : It) : Calls Tryz.prog 286 #[VF b, .int .u64 (rank : Nat), VI x] u fun e w' => e = .returned (.tuple #[ZI, .bool false, .bool false]) ∧ ∃ own', RgP w' own' b (l ++ [x]) ∧ Fol u own w' own' := by
 obtain ⟨g, h2, h3⟩ := h
 refine (push_f h2 hr rank x.1 x.2.1 x.2.2.1 x.2.2.2.1 x.2.2.2.2).mono ?_
 rintro e w' ⟨rfl, ht⟩
 obtain ⟨g', h4, h5⟩ := ring_fol h3 ht
 exact ⟨rfl, _, ⟨g', h4, fun _ => Iff.rfl⟩, h5⟩
end
/-- How an egress stands: its row of classes, pace, time, till when it is busy, its classes (block, ring's block, what they have). -/
structure Eg where
 vc : Value
 pace : Nat
 now : Nat
 busy : Nat
 q : List (Nat × Nat × Ek)
def ptrs (q : List (Nat × Nat × Ek)) : List Value := q.map fun x => .pointer (some ⟨x.1, 0, none⟩)
def clss (q : List (Nat × Nat × Ek)) : List Comp := q.map fun x => clsC x.1 x.2.1 x.2.2
abbrev EC (E : Eg) (vc : Value) : Array Value := #[vc, .slice none 0 0, .int .u64 (E.pace : Nat), .int .u64 (E.now : Nat), .int .u64 (E.busy : Nat)]
/-- An egress at block e. -/
def EgP (w : World) (own : Nat → Prop) (e : Nat) (E : Eg) : Prop := Sep w (blkC e (EC E E.vc) TEg :: ([rowW TKp 1 E.vc E.q.length (ptrs E.q)] ++ clss E.q)) own
def egC (e : Nat) (E : Eg) : Comp := ⟨fun w o => EgP w o e E, fun h hu hS => Sep.kp hu h hS, fun h hk => Sep.lt h hk⟩
/-- Numbers that fit. -/
structure OkE (E : Eg) (c : Nat) : Prop where
 pc1 : 1 ≤ E.pace
 pc2 : E.pace ≤ 65536
 now : E.now ≤ 18446744073709551615
 busy : E.busy ≤ 18446744073709551615
 n1 : 1 ≤ E.q.length
 n2 : E.q.length ≤ 8
 q : ∀ x ∈ E.q, x.2.2.inn ≤ c ∧ x.2.2.left ≤ c ∧ x.2.2.bys ≤ 18446744073709551615 ∧ ∀ a ∈ x.2.2.l, a.2.2.1 ≤ 65535
theorem ptrs_set {q : List (Nat × Nat × Ek)} {i k b : Nat} {s s' : Ek} (h : q[i]? = some (k, b, s)) : ptrs (q.set i (k, b, s')) = ptrs q := by
 unfold ptrs
 rw [List.map_set]
 apply List.ext_getElem?
 intro j
 rw [List.getElem?_set]
 split
 · rename_i e
   subst e
   have hlt : i < q.length := by
    rcases Nat.lt_or_ge i q.length with h' | h'
    · exact h'
    · rw [List.getElem?_eq_none h'] at h; cases h
   rw [if_pos (by rw [List.length_map]; exact hlt), List.getElem?_map, h]
   rfl
 · rfl
theorem lt_of_at {α : Type} {q : List α} {i : Nat} {x : α} (h : q[i]? = some x) : i < q.length := by
 rcases Nat.lt_or_ge i q.length with h' | h'
 · exact h'
 · rw [List.getElem?_eq_none h'] at h; cases h
/-- One of many, found by its place. -/
theorem Sep.at {w : World} {l1 L : List Comp} {own : Nat → Prop} (h : Sep w (l1 ++ L) own) {i : Nat} {C : Comp} (hi : L[i]? = some C) :
 ∃ o, C.P w o ∧ (∀ k, o k → own k) ∧ ∀ (w' : World) (o' : Nat → Prop) (C' : Comp), C'.P w' o' → Fol w o w' o' → ∃ own', Sep w' (l1 ++ L.set i C') own' ∧ Fol w own w' own' := by
 have hlt := lt_of_at hi
 have e1 : L = L.take i ++ C :: L.drop (i + 1) := by
  have : L[i] = C := by rw [List.getElem?_eq_getElem hlt] at hi; exact Option.some.inj hi
  rw [← this, List.getElem_cons_drop, List.take_append_drop]
 have e2 : ∀ C', L.set i C' = L.take i ++ C' :: L.drop (i + 1) := fun C' => by rw [List.set_eq_take_append_cons_drop, if_pos hlt]
 rw [e1, ← List.append_assoc] at h
 obtain ⟨o, h1, h2, h3⟩ := Sep.foc C (L.drop (i + 1)) (l1 ++ L.take i) h
 refine ⟨o, h1, h2, fun w' o' C' hC hf => ?_⟩
 obtain ⟨own', h4, h5⟩ := h3 w' o' C' hC hf
 exact ⟨own', by rw [e2 C', ← List.append_assoc]; exact h4, h5⟩
section
variable {w w' : World} {own : Nat → Prop} {e : Nat} {E : Eg}
/-- A class of an egress, and what becomes of the egress once it turned. -/
theorem EgP.cls (h : EgP w own e E) {i k b : Nat} {s : Ek} (hi : E.q[i]? = some (k, b, s)) :
 ∃ o, ClsP w o k b s ∧ ¬ o e ∧ (∀ q, o q → own q) ∧ own e ∧
  ∀ (w' : World) (o' : Nat → Prop) (s' : Ek), ClsP w' o' k b s' → Fol w o w' o' → ∃ own', EgP w' own' e { E with q := E.q.set i (k, b, s') } ∧ Fol w own w' own' := by
 have hc : (clss E.q)[i]? = some (clsC k b s) := by unfold clss; rw [List.getElem?_map, hi]; rfl
 obtain ⟨oa, ob, ⟨hB2, hoa⟩, hb2, hb3, hb4⟩ := h
 obtain ⟨o5, hC5, hs5, hK5⟩ := Sep.at (l1 := [rowW TKp 1 E.vc E.q.length (ptrs E.q)]) hb2 hc
 refine ⟨o5, hC5, fun he => hb3 e ((hoa e).2 rfl) (hs5 e he), fun q hq => (hb4 q).2 (.inr (hs5 q hq)), (hb4 e).2 (.inl ((hoa e).2 rfl)), fun w' o' s' hP hF => ?_⟩
 obtain ⟨ob', h6, h7⟩ := hK5 w' o' (clsC k b s') hP hF
 have hlt : e < w.heap.size := Blk.lt hB2
 refine ⟨fun q => oa q ∨ ob' q, ⟨oa, ob', ⟨Blk.kept hB2 h7.upd (fun hk => hb3 e ((hoa e).2 rfl) hk), hoa⟩, ?_, fun q hq hq' => ?_, fun _ => Iff.rfl⟩, fun q hq => ?_, h7.upd.mono fun q _ hq => (hb4 q).2 (.inr hq)⟩
 · show Sep w' ([rowW TKp 1 E.vc (E.q.set i (k, b, s')).length (ptrs (E.q.set i (k, b, s')))] ++ clss (E.q.set i (k, b, s'))) ob'
   rw [show clss (E.q.set i (k, b, s')) = (clss E.q).set i (clsC k b s') by unfold clss; rw [List.map_set]]
   simp only [ptrs_set hi, List.length_set]
   exact h6
 · rw [(hoa q).1 hq] at hq'
   rcases h7.at_ e hq' with h8 | h8
   · exact hb3 e ((hoa e).2 rfl) h8
   · exact absurd hlt (Nat.not_lt.2 h8)
 · rcases hq with hq | hq
   · exact .inl ((hb4 q).2 (.inl hq))
   · exact (h7.at_ q hq).imp (fun h8 => (hb4 q).2 (.inr h8)) id
/-- Its own block. -/
theorem EgP.blk (h : EgP w own e E) : own e ∧ ∃ ac cc, Blk w e (EC E (.slice ac E.q.length cc)) TEg ∧
 (∀ i x, E.q[i]? = some x → ∃ g, ac = some ⟨g, 0, none⟩ ∧ w.cell? ⟨g, i, none⟩ = some (.pointer (some ⟨x.1, 0, none⟩))) ∧ E.vc = .slice ac E.q.length cc := by
 obtain ⟨o1, o2, ⟨hB, ho1⟩, ⟨o3, o4, hr1, _⟩, _, h4⟩ := h
 obtain ⟨ac, cc, ev1⟩ := row_form hr1.1
 rw [ev1] at hB
 rw [ev1] at hr1
 refine ⟨(h4 e).2 (.inl ((ho1 e).2 rfl)), ac, cc, hB, fun i x hx => ?_, ev1⟩
 obtain ⟨g, c, he⟩ := rowW_arr hr1 (by have := lt_of_at hx; omega)
 injection he with e1 e2 e3
 subst e1
 exact ⟨g, rfl, (rowW_cell hr1 (k := i) (by unfold ptrs; rw [List.getElem?_map, hx]; rfl)).1⟩
end
section
variable {w w' : World} {own : Nat → Prop} {k b : Nat} {s : Ek}
/-- A class's parts. -/
theorem ClsP.blk (h : ClsP w own k b s) : own k ∧ ∃ o1, Blk w k (KC s.bys s.inn s.left (IF b)) TK ∧ RgP w o1 b s.l ∧ (∀ q, o1 q → own q) := by
 obtain ⟨o, o', ⟨h1, h2⟩, ⟨o2, o3, h3, _, _, h5⟩, _, h4⟩ := h
 exact ⟨(h4 k).2 (.inl ((h2 k).2 rfl)), o2, h1, h3, fun q hq => (h4 q).2 (.inr ((h5 q).2 (.inl hq)))⟩
/-- A class's row, and what becomes of the class once the row turned, and its block was written. -/
theorem ClsP.row (h : ClsP w own k b s) :
 ∃ o2, Blk w k (KC s.bys s.inn s.left (IF b)) TK ∧ RgP w o2 b s.l ∧ ¬ o2 k ∧ (∀ q, o2 q → own q) ∧ own k ∧
  ∀ (w' w'' : World) (o2' : Nat → Prop) (s' : Ek), RgP w' o2' b s'.l → Fol w o2 w' o2' → Upd (fun q => q = k) w' w'' → Blk w'' k (KC s'.bys s'.inn s'.left (IF b)) TK → ∃ own', ClsP w'' own' k b s' ∧ Fol w own w'' own' := by
 obtain ⟨oa, ob, ⟨hB, hoa⟩, ⟨oc, od, hR, hGS, hd2, hm2⟩, hd1, hm1⟩ := h
 have hka : oa k := (hoa k).2 rfl
 have hkb : ¬ ob k := hd1 k hka
 have hkc : ¬ oc k := fun h => hkb ((hm2 k).2 (.inl h))
 have hklt : k < w.heap.size := Blk.lt hB
 refine ⟨oc, hB, hR, hkc, fun q hq => (hm1 q).2 (.inr ((hm2 q).2 (.inl hq))), (hm1 k).2 (.inl hka), fun w' w'' o2' s' hR' hF hu hB' => ?_⟩
 have hk2 : ¬ o2' k := fun h => (hF.at_ k h).elim hkc (fun h2 => absurd hklt (Nat.not_lt.2 h2))
 refine ⟨fun q => oa q ∨ o2' q, ⟨oa, o2', ⟨hB', hoa⟩, Sep.one ((rgC b s'.l).kp hR' hu (fun q hq h => hk2 (by rw [← h]; exact hq))), fun q hq hq' => ?_, fun _ => Iff.rfl⟩, fun q hq => ?_, ?_⟩
 · rw [(hoa q).1 hq] at hq'
   exact hk2 hq'
 · rcases hq with hq | hq
   · exact .inl ((hm1 q).2 (.inl hq))
   · exact (hF.at_ q hq).imp (fun h => (hm1 q).2 (.inr ((hm2 q).2 (.inl h)))) id
 · exact (hF.upd.mono fun q _ hq => (hm1 q).2 (.inr ((hm2 q).2 (.inl hq)))).trans hu (fun q _ hq => by rw [hq]; exact (hm1 k).2 (.inl hka))
end
section
variable {w : World} {k bys inn left : Nat} {v : Value}
theorem kc0 (h : Blk w k (KC bys inn left v) TK) : w.cell? ⟨k, 0, none⟩ = some (.int .i64 4096) := h.cellAt rfl
theorem kc1 (h : Blk w k (KC bys inn left v) TK) : w.cell? ⟨k, 1, none⟩ = some (.int .i64 0) := h.cellAt rfl
theorem kc2 (h : Blk w k (KC bys inn left v) TK) : w.cell? ⟨k, 2, none⟩ = some (.bool false) := h.cellAt rfl
theorem kc16 (h : Blk w k (KC bys inn left v) TK) : w.cell? ⟨k, 16, none⟩ = some v := h.cellAt rfl
theorem kc17 (h : Blk w k (KC bys inn left v) TK) : w.cell? ⟨k, 17, none⟩ = some (.int .u64 (bys : Nat)) := h.cellAt rfl
theorem kc25 (h : Blk w k (KC bys inn left v) TK) : w.cell? ⟨k, 25, none⟩ = some (.pointer none) := h.cellAt rfl
theorem kc30 (h : Blk w k (KC bys inn left v) TK) : w.cell? ⟨k, 30, none⟩ = some (.int .i64 (inn : Nat)) := h.cellAt rfl
theorem kc31 (h : Blk w k (KC bys inn left v) TK) : w.cell? ⟨k, 31, none⟩ = some (.int .i64 (left : Nat)) := h.cellAt rfl
end
end Go.Proofs.YtpgpjjkeginbbaaGreatDoor.Ea
namespace Go.Proofs.YtpgpjjkeginbbaaGreatDoor.Ea
open Go.RowKit Go.Proofs BigFrame
open RingW (It KI zI ZI VI TE RA)
open First (TF VF IF)
open Ah (Ek k0 kin kout pk)
set_option maxHeartbeats 4000000
set_option maxRecDepth 1000000
set_option linter.unusedSimpArgs false
theorem cell_set {w : World} {a b : Addr} {x v : Value} (h : w.cell? a = some x) (hn : b ≠ a) : (w.setCell b v).cell? a = some x := by
 rw [World.cell?_setCell_other w b a v (fun e => hn e)]; exact h
theorem class_at {w : World} {e g n c i k : Nat} (h : w.cell? ⟨e, 0, none⟩ = some (.slice (some ⟨g, 0, none⟩) n c)) (hi : i < n) (hk : w.cell? ⟨g, i, none⟩ = some (.pointer (some ⟨k, 0, none⟩))) :
 Calls Tryz.prog 45 #[.pointer (some ⟨e, 0, none⟩), .int .i64 i] w fun e w' => e = .returned (.pointer (some ⟨k, 0, none⟩)) ∧ w = w' := by
 have d1 : decide ((i : Int) < 0) = false := by simp
 have d2 : decide (n ≤ i) = false := by simp; omega
 go_enter Tryz.func45, Tryz.ntmps45
 go_wp2_with fail
 go_ret
 exact ⟨rfl, rfl⟩
theorem may0 {w : World} {own : Nat → Prop} {k b : Nat} {s : Ek} (h : ClsP w own k b s) (hx : s.l.length < 4096) (rank : Nat) :
 Calls Tryz.prog 46 #[.pointer (some ⟨k, 0, none⟩), .int .u64 rank] w fun e w' => e = .returned (.int .i64 0) ∧ Upd Nowhere w w' := by
 obtain ⟨_, o1, hB, hR, _⟩ := h.blk
 have hr := kc0 hB
 have hp := kc1 hB
 have hv := kc16 hB
 have HL := fun u (hu : Upd Nowhere w u) => Lib.hid (cl ((rgC b s.l).kp hR hu (fun _ _ h => h)))
 have hm := ml b
 obtain ⟨n, hn⟩ : ∃ n, s.l.length = n := ⟨_, rfl⟩
 rw [hn] at HL hx
 have d1 : decide (4096 ≤ n) = false := by simp; omega
 have d2 : decide ((4096 : Int) ≤ (n : Int)) = false := by simp; omega
 have d3 : decide ((n : Int) ≥ (4096 : Int)) = false := by simp; omega
 have HF : ∀ u, Upd Nowhere w u → u.cell? ⟨k, 16, none⟩ = some (IF b) ∧ u.cell? ⟨k, 0, none⟩ = some (.int .i64 4096) ∧ u.cell? ⟨k, 1, none⟩ = some (.int .i64 0) := fun u hu => ⟨cell_old hu hv, cell_old hu hr, cell_old hu hp⟩
 clear h hB hR hn hx
 go_enter Tryz.func46, Tryz.ntmps46
 go_wp2_with fail
 go_region_held3 (fun w' => Upd Nowhere w w' ∧ w'.cell? ⟨k, 16, none⟩ = some (IF b) ∧ w'.cell? ⟨k, 0, none⟩ = some (.int .i64 4096) ∧ w'.cell? ⟨k, 1, none⟩ = some (.int .i64 0)) (first | exact gk_start HF ((Upd.refl _ _).drew) | assumption) (first
  | (go_at_call 285; refine (gk_call HF (HL _ (by have h9 := ‹Upd Nowhere w _ ∧ _›; exact h9.1)).out (by assumption)).mono ?_; rintro e w' ⟨rfl, _, _⟩))
 rename_i hSF
 obtain ⟨hu, -, -, -⟩ := hSF
 go_wp2_with fail
 go_ret
 exact ⟨rfl, hu⟩
/-- How many ticks so many bytes take. -/
def tks (pace len : Nat) : Nat := min (len * pace) 18446744073709551615
/-- Till when it is busy then. -/
def bsy (E : Eg) (len : Nat) : Nat := min (E.now + tks E.pace len) 18446744073709551615
theorem takes_any {w : World} {e f i l pace : Nat} (hp : w.cell? ⟨e, 2, none⟩ = some (.int .u64 pace)) (hl : l < 18446744073709551616) (hpc : pace < 18446744073709551616) :
 Calls Tryz.prog 85 #[.pointer (some ⟨e, 0, none⟩), VP (f, i, l)] w fun e w' => e = .returned (.int .u64 (tks pace l : Nat)) ∧ Upd Nowhere w w' := by
 have hU : Upd Nowhere w (w.alloc (.cells #[.int .u32 f, .int .u32 i, .int .u64 l] TP)) := (Upd.refl _ _).alloc _
 have hB : Blk (w.alloc (.cells #[.int .u32 f, .int .u32 i, .int .u64 l] TP)) w.heap.size #[.int .u32 f, .int .u32 i, .int .u64 l] TP := Blk.new _ _ _
 have c2 := cell_old hU hp
 obtain ⟨k0, k1, k2, -⟩ := cells3 hB
 have HM := fun u => Lib.hid (Sat.sat_mul l pace (by omega) (by omega) u)
 clear hp hB
 unfold tks
 go_enter Tryz.func85, Tryz.ntmps85
 go_upto_region 1 with fail
 generalize w.alloc (.cells #[.int .u32 f, .int .u32 i, .int .u64 l] TP) = w1 at *
 go_quiet ((go_at_call 114; exact quiet_same (HM _).out))
 go_wp2_with fail
 go_ret
 exact ⟨rfl, hU.drewN _⟩
theorem open_none {w : World} {e i t : Nat} {ad : Option Addr} {c : Nat} (h : w.cell? ⟨e, 1, none⟩ = some (.slice ad 0 c)) :
 Calls Tryz.prog 84 #[.pointer (some ⟨e, 0, none⟩), .int .i64 i, .int .u64 t] w fun e w' => e = .returned (.bool true) ∧ w = w' := by
 go_enter Tryz.func84, Tryz.ntmps84
 go_wp2_with fail
 go_ret
 exact ⟨rfl, rfl⟩
theorem goes_no {w : World} {own : Nat → Prop} {e : Nat} {E : Eg} {i k b : Nat} {s : Ek} (h : EgP w own e E) (hx : E.q[i]? = some (k, b, s)) (hL : s.l = []) :
 Calls Tryz.prog 48 #[.pointer (some ⟨e, 0, none⟩), .int .i64 i] w fun x w' => x = .returned (.bool false) ∧ Upd Nowhere w w' := by
 have hi := lt_of_at hx
 obtain ⟨_, ac, cc, hB, hK, -⟩ := h.blk
 obtain ⟨g, rfl, hg⟩ := hK i _ hx
 dsimp only at hg
 have c0 : w.cell? ⟨e, 0, none⟩ = some (.slice (some ⟨g, 0, none⟩) E.q.length cc) := hB.cellAt rfl
 obtain ⟨o, hC, hoe, ho, hoo, -⟩ := h.cls hx
 obtain ⟨hko, o1, hBk, hR, -⟩ := hC.blk
 have k16 := kc16 hBk
 rw [hL] at hR
 have HH := Lib.hid (ce hR)
 have hmh := mh b
 have hI : (i : Int) < (E.q.length : Nat) := by omega
 clear h hx hB hK hC hoe ho hoo hko hBk hR hL hi
 go_enter Tryz.func48, Tryz.ntmps48
 go_wp2_with fail
 refine (HH.out).mono ?_
 rintro x w1 ⟨rfl, hu⟩
 go_wp2_with fail
 go_ret
 exact ⟨rfl, hu.alloc _⟩
theorem goes_yes {w : World} {own : Nat → Prop} {e : Nat} {E : Eg} {c i k b : Nat} {s : Ek} {x0 x1 x2 x3 x4 : Nat} {t : List It} (h : EgP w own e E) (hE : OkE E c) (hx : E.q[i]? = some (k, b, s)) (hL : s.l = (x0, x1, x2, x3, x4) :: t) :
 Calls Tryz.prog 48 #[.pointer (some ⟨e, 0, none⟩), .int .i64 i] w fun x w' => x = .returned (.bool true) ∧ Upd Nowhere w w' := by
 have hi := lt_of_at hx
 have hx2 : x2 ≤ 65535 := (hE.q _ (List.mem_of_getElem? hx)).2.2.2 (x0, x1, x2, x3, x4) (by rw [hL]; exact List.mem_cons_self ..)
 obtain ⟨_, ac, cc, hB, hK, -⟩ := h.blk
 obtain ⟨g, rfl, hg⟩ := hK i _ hx
 dsimp only at hg
 have c0 : w.cell? ⟨e, 0, none⟩ = some (.slice (some ⟨g, 0, none⟩) E.q.length cc) := hB.cellAt rfl
 have c1 : w.cell? ⟨e, 1, none⟩ = some (.slice none 0 0) := hB.cellAt rfl
 have c2 : w.cell? ⟨e, 2, none⟩ = some (.int .u64 (E.pace : Nat)) := hB.cellAt rfl
 obtain ⟨o, hC, hoe, ho, hoo, -⟩ := h.cls hx
 obtain ⟨hko, o1, hBk, hR, -⟩ := hC.blk
 have k16 := kc16 hBk
 have k2 := kc2 hBk
 rw [hL] at hR
 have HH := Lib.hid (ch hR)
 have hmh := mh b
 have hI : (i : Int) < (E.q.length : Nat) := by omega
 have hpace := hE.pc2
 have HTK := fun u (hu : Upd Nowhere w u) => Lib.hid (takes_any (f := x0) (i := x1) (l := x2) (cell_old hu c2) (by omega) (by omega))
 obtain ⟨tk, htk⟩ : ∃ tk, tks E.pace x2 = tk := ⟨_, rfl⟩
 rw [htk] at HTK
 have HOP := fun u (hu : Upd Nowhere w u) => Lib.hid (open_none (i := i) (t := tk) (cell_old hu c1))
 have HK : Hid (∀ u, Upd Nowhere w u → u.cell? ⟨k, 2, none⟩ = some (.bool false)) := Lib.hid (fun u hu => cell_old hu k2)
 clear h hE hx hB hK hC hoe ho hoo hko hBk hR hL hi k2 c1 c2 hpace htk hx2
 go_enter Tryz.func48, Tryz.ntmps48
 go_wp2_with fail
 refine (HH.out).mono ?_
 rintro x w1 ⟨rfl, hu⟩
 go_upto_region 3 with fail
 have hu2 : Upd Nowhere w (w1.alloc (.cells #[.int .u32 x0, .int .u32 x1, .int .u64 x2, .int .u64 x3, .int .i64 x4] TE)) := hu.alloc _
 obtain ⟨q0, q1, q2, -⟩ := cells5 (Blk.new w1 #[.int .u32 x0, .int .u32 x1, .int .u64 x2, .int .u64 x3, .int .i64 x4] TE)
 go_wp2_with fail
 refine ((HTK _ hu2).out).mono ?_
 rintro x w3 ⟨rfl, hu3⟩
 have hu4 := hu2.trans hu3 (fun _ _ h => h)
 go_wp2_with fail
 refine ((HOP _ hu4).out).mono ?_
 rintro x w4 ⟨rfl, rfl⟩
 have k2 := HK.out _ hu4
 go_wp2_with fail
 go_ret
 exact ⟨rfl, hu4⟩
theorem drops_no {w : World} {k bys inn left : Nat} {v : Value} (hB : Blk w k (KC bys inn left v) TK) (x0 x1 x2 x3 x4 now bh : Nat) :
 Calls Tryz.prog 49 #[.pointer (some ⟨k, 0, none⟩), VI (x0, x1, x2, x3, x4), .int .u64 now, .int .u64 bh] w fun e w' => e = .returned (.bool false) ∧ Upd Nowhere w w' := by
 have hU : Upd Nowhere w (w.alloc (.cells #[.int .u32 x0, .int .u32 x1, .int .u64 x2, .int .u64 x3, .int .i64 x4] TE)) := (Upd.refl _ _).alloc _
 have c1 := cell_old hU (kc1 hB)
 clear hB
 go_enter Tryz.func49, Tryz.ntmps49
 go_wp2_with fail
 go_ret
 exact ⟨rfl, hU⟩
theorem EgP.setBusy {w : World} {own : Nat → Prop} {e : Nat} {E : Eg} (h : EgP w own e E) (b : Nat) : EgP (w.setCell ⟨e, 4, none⟩ (.int .u64 (b : Nat))) own e { E with busy := b } ∧ Fol w own (w.setCell ⟨e, 4, none⟩ (.int .u64 (b : Nat))) own := by
 obtain ⟨o1, o2, ⟨hB, ho1⟩, h2, h3, h4⟩ := h
 have hu : Upd (fun q => q = e) w (w.setCell ⟨e, 4, none⟩ (.int .u64 (b : Nat))) := (Upd.refl _ _).setOne 4 _
 have hne : ∀ q, o2 q → ¬ q = e := fun q hq he => h3 e ((ho1 e).2 rfl) (by rw [← he]; exact hq)
 exact ⟨⟨o1, o2, ⟨by simpa using hB.set 4 (.int .u64 (b : Nat)), ho1⟩, h2.kp hu hne, h3, h4⟩, fun q hq => .inl hq, hu.mono fun q _ hq => (h4 q).2 (.inl ((ho1 q).2 hq))⟩
theorem EgP.setNow {w : World} {own : Nat → Prop} {e : Nat} {E : Eg} (h : EgP w own e E) (b : Nat) : EgP (w.setCell ⟨e, 3, none⟩ (.int .u64 (b : Nat))) own e { E with now := b } ∧ Fol w own (w.setCell ⟨e, 3, none⟩ (.int .u64 (b : Nat))) own := by
 obtain ⟨o1, o2, ⟨hB, ho1⟩, h2, h3, h4⟩ := h
 have hu : Upd (fun q => q = e) w (w.setCell ⟨e, 3, none⟩ (.int .u64 (b : Nat))) := (Upd.refl _ _).setOne 3 _
 have hne : ∀ q, o2 q → ¬ q = e := fun q hq he => h3 e ((ho1 e).2 rfl) (by rw [← he]; exact hq)
 exact ⟨⟨o1, o2, ⟨by simpa using hB.set 3 (.int .u64 (b : Nat)), ho1⟩, h2.kp hu hne, h3, h4⟩, fun q hq => .inl hq, hu.mono fun q _ hq => (h4 q).2 (.inl ((ho1 q).2 hq))⟩
section
variable {w w1 w' : World} {own : Nat → Prop} {e : Nat} {E : Eg} {i k b : Nat} {s s' : Ek}
/-- A class's block, written. -/
theorem EgP.setK (h : EgP w own e E) (hx : E.q[i]? = some (k, b, s)) (h0 : Upd Nowhere w w1) (hu : Upd (fun q => q = k) w1 w') (e1 : s'.l = s.l)
 (hB : Blk w k (KC s.bys s.inn s.left (IF b)) TK → Blk w' k (KC s'.bys s'.inn s'.left (IF b)) TK) : ∃ own', EgP w' own' e { E with q := E.q.set i (k, b, s') } ∧ Fol w own w' own' := by
 obtain ⟨o, hC, _, _, _, hK⟩ := h.cls hx
 obtain ⟨o2, hBk, hR, hok, _, _, hKK⟩ := ClsP.row hC
 obtain ⟨o', h1, h2⟩ := hKK w1 w' o2 s' (by rw [e1]; exact (rgC b s.l).kp hR h0 (fun _ _ h => h)) ((Fol.refl _ _).old h0) hu (hB hBk)
 exact hK w' o' s' h1 h2
theorem EgP.cells (h : EgP w own e E) (hx : E.q[i]? = some (k, b, s)) : own k ∧ k ≠ e ∧ Blk w k (KC s.bys s.inn s.left (IF b)) TK := by
 obtain ⟨o, hC, hoe, ho, _, _⟩ := h.cls hx
 obtain ⟨hko, o1, hB, _⟩ := hC.blk
 exact ⟨ho k hko, fun he => hoe (by rw [← he]; exact hko), hB⟩
theorem EgP.lenOf (h : EgP w own e E) (hx : E.q[i]? = some (k, b, s)) : w.cell? ⟨k, 16, none⟩ = some (IF b) ∧
 ∀ u, Upd Nowhere w u → Hid (Calls Tryz.prog 285 #[VF b] u fun x w' => x = .returned (.int .i64 (s.l.length : Nat)) ∧ Upd Nowhere u w') := by
 obtain ⟨o, hC, hoe, ho, _, _⟩ := h.cls hx
 obtain ⟨_, o1, hB, hR, _⟩ := hC.blk
 exact ⟨kc16 hB, fun u hu => Lib.hid (cl ((rgC b s.l).kp hR hu (fun _ _ h => h)))⟩
/-- Its first packet, taken out. -/
theorem EgP.takeOf {x : It} {t : List It} (h : EgP w own e E) (hx : E.q[i]? = some (k, b, s)) (hl : s.l = x :: t) : w.cell? ⟨k, 16, none⟩ = some (IF b) ∧
 Calls Tryz.prog 287 #[VF b] w fun y w' => y = .returned (VI x) ∧ ∃ own', EgP w' own' e { E with q := E.q.set i (k, b, { s with l := t }) } ∧ Fol w own w' own' := by
 obtain ⟨o, hC, hoe, ho, _, hKE⟩ := h.cls hx
 obtain ⟨o2, hB, hR, hk2, hs2, hko, hKK⟩ := ClsP.row hC
 refine ⟨kc16 hB, ?_⟩
 rw [hl] at hR
 refine (ct hR).mono ?_
 rintro y w' ⟨rfl, o2', h1, h2⟩
 obtain ⟨o', h3, h4⟩ := hKK w' w' o2' { s with l := t } h1 h2 (Upd.refl _ _) (h2.blk hB hk2)
 obtain ⟨own', h5, h6⟩ := hKE w' o' _ h3 h4
 exact ⟨rfl, own', h5, h6⟩
end
end Go.Proofs.YtpgpjjkeginbbaaGreatDoor.Ea

