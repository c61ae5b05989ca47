/- Ea4, Ea5, one behind the other. -/
import Derived.Test.YtpgpjjkeginbbaaGreatDoorMtEa3
import Derived.Test.YtpgpjjkeginbbaaGreatDoorMtA
import Derived.Deep.RegionLaw
namespace Go.Proofs.YtpgpjjkeginbbaaGreatDoor.Ea
open Go.RowKit Go.Proofs BigFrame
open RingW (It KI zI ZI VI TE RA)
open First (TF VF IF)
open Ah (Ek k0 kin kout pk)
set_option maxHeartbeats 40000000
set_option maxRecDepth 1000000
set_option linter.unusedSimpArgs false
section
variable {w : World} {own : Nat → Prop} {e : Nat} {E : Eg}
theorem now_at (h : EgP w own e E) :
 Calls Tryz.prog 17 #[.pointer (some ⟨e, 0, none⟩)] w fun x w' => x = .returned (.int .u64 (E.now : Nat)) ∧ w = w' := by
 obtain ⟨_, ac, cc, hB, -⟩ := h.blk
 have c3 : w.cell? ⟨e, 3, none⟩ = some (.int .u64 (E.now : Nat)) := hB.cellAt rfl
 clear h hB
 go_enter Tryz.func17, Tryz.ntmps17
 go_wp2_with fail
 go_ret
 exact ⟨rfl, rfl⟩
theorem busy_at (h : EgP w own e E) :
 Calls Tryz.prog 16 #[.pointer (some ⟨e, 0, none⟩)] w fun x w' => x = .returned (.int .u64 (E.busy : Nat)) ∧ w = w' := by
 obtain ⟨_, ac, cc, hB, -⟩ := h.blk
 have c4 : w.cell? ⟨e, 4, none⟩ = some (.int .u64 (E.busy : Nat)) := hB.cellAt rfl
 clear h hB
 go_enter Tryz.func16, Tryz.ntmps16
 go_wp2_with fail
 go_ret
 exact ⟨rfl, rfl⟩
theorem tick_any {c t : Nat} (h : EgP w own e E) (hE : OkE E c) (ht : t ≤ 18446744073709551615) :
 Calls Tryz.prog 15 #[.pointer (some ⟨e, 0, none⟩), .int .u64 t] w fun x w' => x = .returned (.tuple #[]) ∧ ∃ own', EgP w' own' e { E with now := min (E.now + t) 18446744073709551615 } ∧ Fol w own w' own' := by
 obtain ⟨_, ac, cc, hB, hKX, hvc⟩ := h.blk
 have c0 : w.cell? ⟨e, 0, none⟩ = some (.slice ac E.q.length cc) := hB.cellAt rfl
 have c3 : w.cell? ⟨e, 3, none⟩ = some (.int .u64 (E.now : Nat)) := hB.cellAt rfl
 have z3 := Blk.free hB 3
 have hn1 := hE.n1
 have hn2 := hE.n2
 obtain ⟨g, hg⟩ : ∃ g, ac = some ⟨g, 0, none⟩ := by
  obtain ⟨g, h1, _⟩ := hKX 0 E.q[0] (List.getElem?_eq_getElem (by omega))
  exact ⟨g, h1⟩
 subst hg
 have HAD := fun u => Lib.hid (Bits.sat_add E.now t u hE.now ht)
 obtain ⟨nw, hnw⟩ : ∃ nw, min (E.now + t) 18446744073709551615 = nw := ⟨_, rfl⟩
 rw [hnw] at HAD
 rw [hnw]
 obtain ⟨h1, f1⟩ := h.setNow nw
 have H1 := Lib.hid h1
 have F1 := Lib.hid f1
 obtain ⟨n, hn⟩ : ∃ n, E.q.length = n := ⟨_, rfl⟩
 rw [hn] at c0 hn1 hn2 hvc
 have HN := Lib.hid hn
 have HVC := Lib.hid hvc
 clear h hE hB hKX hn hvc h1 f1 ht hnw
 go_enter Tryz.func15, Tryz.ntmps15
 go_wp2_with fail
 refine ((HAD _).out).mono ?_
 rintro x w' ⟨rfl, rfl⟩
 go_upto_region 2 with fail
 generalize w.setCell ⟨e, 3, none⟩ (.int .u64 (nw : Nat)) = w1 at *
 obtain ⟨a1, a2, hB1, hvc1⟩ : ∃ a1 a2, Blk w1 e (EC { E with now := nw } (.slice a1 E.q.length a2)) TEg ∧ E.vc = .slice a1 E.q.length a2 := by
  obtain ⟨_, b1, b2, hB1, _, hv⟩ := H1.out.blk
  exact ⟨b1, b2, hB1, hv⟩
 have c0' : w1.cell? ⟨e, 0, none⟩ = some (.slice (some ⟨g, 0, none⟩) n cc) := by rw [← HVC.out, hvc1]; exact hB1.cellAt rfl
 clear hB1 hvc1 c0 c3 z3
 go_wp2_with fail
 go_loopg [5, 22] (n + 1) (fun gk _ v22 wr => ∃ (i : Nat), n - i < gk ∧ i ≤ n ∧ v22 = .int .i64 i ∧ Upd Nowhere w1 wr)
 case atStart => exact ⟨0, by omega, Nat.zero_le _, rfl, Upd.refl _ _⟩
 case round =>
  obtain ⟨i, hgk, hin, rfl, hu⟩ := hrel
  obtain ⟨wB, rfl⟩ : ∃ x, x = wr := ⟨_, rfl⟩
  have HGK := Lib.hid hgk
  have HU := Lib.hid hu
  clear hgk hu c0'
  rcases Nat.lt_or_ge i n with hlt | hge
  · obtain ⟨⟨k, b, s⟩, hx⟩ : ∃ x, E.q[i]? = some x := ⟨E.q[i]'(by have := HN.out; omega), by simp⟩
    have h2 := (egC e _).kp H1.out HU.out (fun _ _ h => h)
    obtain ⟨_, b1, _, _, hK2, hv2⟩ := EgP.blk h2
    obtain ⟨g2, hg2, hcell⟩ := hK2 i _ hx
    dsimp only at hv2 hcell
    rw [HVC.out] at hv2
    injection hv2 with ev1 ev2 ev3
    rw [hg2] at ev1
    injection ev1 with ev1
    injection ev1 with ev1
    subst ev1
    obtain ⟨hko, hke, hBk⟩ := EgP.cells h2 hx
    have c2 := kc2 hBk
    have hI : (i : Int) < n := by omega
    clear hK2 hg2 ev2 ev3 hx hBk h2
    go_wp2_with fail
    go_roundg (n - i)
    case rel => exact ⟨i + 1, by omega, by omega, rfl, HU.out⟩
    case measure => have := HGK.out; omega
  · obtain rfl : i = n := by omega
    have dI : decide ((i : Int) < i) = false := by simp
    have H9 := Lib.hid ((egC e _).kp H1.out HU.out (fun _ _ h => h))
    have F9 := Lib.hid (F1.out.old HU.out)
    clear H1 F1
    go_wp2_with fail
    go_end0
    exact ⟨rfl, own, H9.out, F9.out⟩
end
section
variable {w0 w : World} {l1 l2 : List Comp} {e : Nat} {E : Eg} {c : Nat}
/-- An egress, among other things. -/
theorem e_now (h : Made w0 w (l1 ++ egC e E :: l2)) : Calls Tryz.prog 17 #[.pointer (some ⟨e, 0, none⟩)] w fun x w' => x = .returned (.int .u64 (E.now : Nat)) ∧ w = w' := by
 obtain ⟨o, h1, _, _⟩ := Made.foc _ _ _ h
 exact now_at h1
theorem e_busy (h : Made w0 w (l1 ++ egC e E :: l2)) : Calls Tryz.prog 16 #[.pointer (some ⟨e, 0, none⟩)] w fun x w' => x = .returned (.int .u64 (E.busy : Nat)) ∧ w = w' := by
 obtain ⟨o, h1, _, _⟩ := Made.foc _ _ _ h
 exact busy_at h1
theorem e_tick (h : Made w0 w (l1 ++ egC e E :: l2)) (hE : OkE E c) {t : Nat} (ht : t ≤ 18446744073709551615) : Calls Tryz.prog 15 #[.pointer (some ⟨e, 0, none⟩), .int .u64 t] w fun x w' => x = .returned (.tuple #[]) ∧ Made w0 w' (l1 ++ egC e { E with now := min (E.now + t) 18446744073709551615 } :: l2) := by
 obtain ⟨o, h1, _, h3⟩ := Made.foc _ _ _ h
 refine (tick_any h1 hE ht).mono ?_
 rintro x w' ⟨rfl, own', h4, h5⟩
 exact ⟨rfl, h3 w' own' (egC e _) h4 h5⟩
theorem e_len (h : Made w0 w (l1 ++ egC e E :: l2)) {i : Nat} (hi : i < E.q.length) (rank p0 p1 p2 : Nat) (hp : p2 = 0 ∨ 65535 < p2) : Calls Tryz.prog 14 #[.pointer (some ⟨e, 0, none⟩), .int .i64 i, .int .u64 rank, VP (p0, p1, p2)] w fun x w' => x = .returned (.int .i64 12) ∧ Made w0 w' (l1 ++ egC e E :: l2) := by
 obtain ⟨o, h1, _, h3⟩ := Made.foc _ _ _ h
 refine (push_len h1 hi rank p0 p1 p2 hp).mono ?_
 rintro x w' ⟨rfl, hu⟩
 exact ⟨rfl, h.old hu⟩
theorem e_push (h : Made w0 w (l1 ++ egC e E :: l2)) (hE : OkE E c) (hc : c < 1000000000) {i k b : Nat} {s : Ek} (hx : E.q[i]? = some (k, b, s)) (hroom : s.l.length < 4096) (rank p0 p1 p2 : Nat) (hp1 : 1 ≤ p2) (hp2 : p2 ≤ 65535) : Calls Tryz.prog 14 #[.pointer (some ⟨e, 0, none⟩), .int .i64 i, .int .u64 rank, VP (p0, p1, p2)] w fun x w' => x = .returned (.int .i64 0) ∧ Made w0 w' (l1 ++ egC e { E with q := E.q.set i (k, b, kin s E.now (p0, p1, p2)) } :: l2) := by
 obtain ⟨o, h1, _, h3⟩ := Made.foc _ _ _ h
 refine (push_any h1 hE hc hx hroom rank p0 p1 p2 hp1 hp2).mono ?_
 rintro x w' ⟨rfl, own', h4, h5⟩
 exact ⟨rfl, h3 w' own' (egC e _) h4 h5⟩
theorem e_next (h : Made w0 w (l1 ++ egC e E :: l2)) (hE : OkE E c) (hc : c < 1000000000) (hb : ¬ E.now < E.busy) : Calls Tryz.prog 18 #[.pointer (some ⟨e, 0, none⟩)] w fun x w' => ∃ a r E', nxt E a r E' ∧ x = .returned (.tuple #[.int .i64 (r.1 : Nat), VP r.2.1, .int .i64 (r.2.2 : Nat)]) ∧ Made w0 w' (l1 ++ egC e E' :: l2) := by
 obtain ⟨o, h1, _, h3⟩ := Made.foc _ _ _ h
 refine (next_any h1 hE hc hb).mono ?_
 rintro x w' ⟨a, r, E', hn, rfl, own', h4, h5⟩
 exact ⟨a, r, E', hn, rfl, h3 w' own' (egC e E') h4 h5⟩
end
theorem OkE.set {E : Eg} {c : Nat} (i k b : Nat) {s' : Ek} (h : OkE E c) (h1 : s'.inn ≤ c + 1) (h2 : s'.left ≤ c + 1) (h3 : s'.bys ≤ 18446744073709551615) (h4 : ∀ a ∈ s'.l, a.2.2.1 ≤ 65535) (t u : Nat) (ht : t ≤ 18446744073709551615) (hu : u ≤ 18446744073709551615) : OkE ⟨E.vc, E.pace, t, u, E.q.set i (k, b, s')⟩ (c + 1) := by
 refine ⟨h.pc1, h.pc2, ht, hu, by rw [List.length_set]; exact h.n1, by rw [List.length_set]; exact h.n2, fun x hxm => ?_⟩
 rcases List.mem_or_eq_of_mem_set hxm with hm | rfl
 · obtain ⟨a1, a2, a3, a4⟩ := h.q x hm
   exact ⟨by omega, by omega, a3, a4⟩
 · exact ⟨h1, h2, h3, h4⟩
theorem OkE.more {E : Eg} {c : Nat} (h : OkE E c) (t : Nat) (ht : t ≤ 18446744073709551615) : OkE { E with now := t } (c + 1) :=
 ⟨h.pc1, h.pc2, ht, h.busy, h.n1, h.n2, fun x hxm => by obtain ⟨a1, a2, a3, a4⟩ := h.q x hxm; exact ⟨by omega, by omega, a3, a4⟩⟩
end Go.Proofs.YtpgpjjkeginbbaaGreatDoor.Ea
namespace Go.Proofs.YtpgpjjkeginbbaaGreatDoor.Ea
open Go.RowKit Go.Proofs BigFrame
open RingW (It KI zI ZI VI TE RA)
open First (TF VF IF)
open Ah (Ek k0 kin kout pk)
set_option maxHeartbeats 40000000
set_option maxRecDepth 1000000
set_option linter.unusedSimpArgs false
abbrev TCo : TypeId := 62
/-- Classes that let all in, in memory. -/
def ClsAt (w : World) (ad : Option Addr) (n : Nat) : Prop := ∀ i, i < n → ∃ g o, ad = some ⟨g, o, none⟩ ∧ ∀ j v, VC0[j]? = some v → w.cell? ⟨g, o + i * 16 + j, none⟩ = some v
theorem ClsAt.old {w w' : World} {ad : Option Addr} {n : Nat} (h : ClsAt w ad n) (hu : Upd Nowhere w w') : ClsAt w' ad n := fun i hi => by
 obtain ⟨g, o, e, h2⟩ := h i hi
 exact ⟨g, o, e, fun j v hv => cell_old hu (h2 j v hv)⟩
theorem ClsAt.get {w : World} {ad : Option Addr} {n i : Nat} (h : ClsAt w ad n) (hi : i < n) : ∃ g o, ad = some ⟨g, o, none⟩ ∧ w.cell? ⟨g, o + i * 16, none⟩ = some (.int .i64 4096) ∧ w.cell? ⟨g, o + i * 16 + 1, none⟩ = some (.int .i64 0) ∧ w.cell? ⟨g, o + i * 16 + 2, none⟩ = some (.bool false) ∧ w.cell? ⟨g, o + i * 16 + 3, none⟩ = some (.int .i64 0) ∧ w.cell? ⟨g, o + i * 16 + 4, none⟩ = some (.int .i64 0) ∧ w.cell? ⟨g, o + i * 16 + 5, none⟩ = some (.int .i64 0) ∧ w.cell? ⟨g, o + i * 16 + 6, none⟩ = some (.int .u64 0) ∧ w.cell? ⟨g, o + i * 16 + 7, none⟩ = some (.int .u64 0) ∧ w.cell? ⟨g, o + i * 16 + 8, none⟩ = some (.int .u64 0) ∧ w.cell? ⟨g, o + i * 16 + 9, none⟩ = some (.int .i64 0) ∧ w.cell? ⟨g, o + i * 16 + 10, none⟩ = some (.int .u64 0) ∧ w.cell? ⟨g, o + i * 16 + 11, none⟩ = some (.int .u64 0) ∧ w.cell? ⟨g, o + i * 16 + 12, none⟩ = some (.int .u64 0) ∧ w.cell? ⟨g, o + i * 16 + 13, none⟩ = some (.int .i64 0) ∧ w.cell? ⟨g, o + i * 16 + 14, none⟩ = some (.int .u64 0) ∧ w.cell? ⟨g, o + i * 16 + 15, none⟩ = some (.int .u64 0) := by
 obtain ⟨g, o, e, h2⟩ := h i hi
 exact ⟨g, o, e, h2 0 _ rfl, h2 1 _ rfl, h2 2 _ rfl, h2 3 _ rfl, h2 4 _ rfl, h2 5 _ rfl, h2 6 _ rfl, h2 7 _ rfl, h2 8 _ rfl, h2 9 _ rfl, h2 10 _ rfl, h2 11 _ rfl, h2 12 _ rfl, h2 13 _ rfl, h2 14 _ rfl, h2 15 _ rfl⟩
theorem vc_cells {w : World} {X : Nat} (h : Blk w X VC0 TCl) : ∀ u, Upd Nowhere w u → u.cell? ⟨X, 0, none⟩ = some (.int .i64 4096) ∧ u.cell? ⟨X, 1, none⟩ = some (.int .i64 0) ∧ u.cell? ⟨X, 2, none⟩ = some (.bool false) ∧ u.cell? ⟨X, 3, none⟩ = some (.int .i64 0) ∧ u.cell? ⟨X, 4, none⟩ = some (.int .i64 0) ∧ u.cell? ⟨X, 5, none⟩ = some (.int .i64 0) ∧ u.cell? ⟨X, 6, none⟩ = some (.int .u64 0) ∧ u.cell? ⟨X, 7, none⟩ = some (.int .u64 0) ∧ u.cell? ⟨X, 8, none⟩ = some (.int .u64 0) ∧ u.cell? ⟨X, 9, none⟩ = some (.int .i64 0) ∧ u.cell? ⟨X, 10, none⟩ = some (.int .u64 0) ∧ u.cell? ⟨X, 11, none⟩ = some (.int .u64 0) ∧ u.cell? ⟨X, 12, none⟩ = some (.int .u64 0) ∧ u.cell? ⟨X, 13, none⟩ = some (.int .i64 0) ∧ u.cell? ⟨X, 14, none⟩ = some (.int .u64 0) ∧ u.cell? ⟨X, 15, none⟩ = some (.int .u64 0) := fun _ hu =>
 ⟨cell_old hu (h.cellAt (i := 0) rfl), cell_old hu (h.cellAt (i := 1) rfl), cell_old hu (h.cellAt (i := 2) rfl), cell_old hu (h.cellAt (i := 3) rfl), cell_old hu (h.cellAt (i := 4) rfl), cell_old hu (h.cellAt (i := 5) rfl), cell_old hu (h.cellAt (i := 6) rfl), cell_old hu (h.cellAt (i := 7) rfl), cell_old hu (h.cellAt (i := 8) rfl), cell_old hu (h.cellAt (i := 9) rfl), cell_old hu (h.cellAt (i := 10) rfl), cell_old hu (h.cellAt (i := 11) rfl), cell_old hu (h.cellAt (i := 12) rfl), cell_old hu (h.cellAt (i := 13) rfl), cell_old hu (h.cellAt (i := 14) rfl), cell_old hu (h.cellAt (i := 15) rfl)⟩
theorem policy0 (w : World) : Calls Tryz.prog 116 #[.agg VC0] w fun x w' => x = .returned (.int .i64 0) ∧ Upd Nowhere w w' := by
 go_enter Tryz.func116, Tryz.ntmps116
 go_wp2_with fail
 go_ret
 exact ⟨rfl, (Upd.refl _ _).alloc _⟩
theorem check0 (w : World) : Calls Tryz.prog 76 #[.agg VC0] w fun x w' => x = .returned (.int .i64 0) ∧ Upd Nowhere w w' := by
 have HP := fun u => Lib.hid (policy0 u)
 have hU : Upd Nowhere w (w.alloc (.cells VC0 TCl)) := (Upd.refl _ _).alloc _
 have HF := Lib.hid (vc_cells (Blk.new w VC0 TCl))
 go_enter Tryz.func76, Tryz.ntmps76
 go_wp2_with fail
 refine (HP _).out.mono ?_
 rintro x w2 ⟨rfl, u2⟩
 obtain ⟨m0, m1, m2, -⟩ := HF.out _ u2
 go_wp2_with fail
 go_ret
 exact ⟨rfl, hU.trans u2 (fun _ _ h => h)⟩
theorem checkE {w : World} {ad : Option Addr} {n cc pace : Nat} (hC : ClsAt w ad n) (h1 : 1 ≤ n) (h2 : n ≤ 8) (hp1 : 1 ≤ pace) (hp2 : pace ≤ 65536) :
 Calls Tryz.prog 41 #[.agg #[.slice ad n cc, .slice none 0 0, .int .u64 pace]] w fun x w' => x = .returned (.int .i64 0) ∧ Upd Nowhere w w' := by
 have hU : Upd Nowhere w (w.alloc (.cells #[.slice ad n cc, .slice none 0 0, .int .u64 pace] TCo)) := (Upd.refl _ _).alloc _
 have hB : Blk (w.alloc (.cells #[.slice ad n cc, .slice none 0 0, .int .u64 pace] TCo)) w.heap.size #[.slice ad n cc, .slice none 0 0, .int .u64 pace] TCo := Blk.new _ _ _
 have d0 : ((n : Int) == 0) = false := by simp; omega
 have d1 : decide ((8 : Int) < (n : Int)) = false := decide_eq_false (by omega)
 have d2 : decide (8 < n) = false := decide_eq_false (by omega)
 have d3 : decide (pace < 1) = false := decide_eq_false (by omega)
 have d4 : decide ((pace : Int) < 1) = false := decide_eq_false (by omega)
 have d5 : decide (pace = 0) = false := decide_eq_false (by omega)
 have d6 : decide (65536 < pace) = false := decide_eq_false (by omega)
 have d7 : decide ((65536 : Int) < (pace : Int)) = false := decide_eq_false (by omega)
 have HC := Lib.hid hC
 have HB := fun u (hu : Upd Nowhere (w.alloc (.cells #[.slice ad n cc, .slice none 0 0, .int .u64 pace] TCo)) u) => Lib.hid (show u.cell? ⟨w.heap.size, 0, none⟩ = some (.slice ad n cc) from cell_old hu (hB.cellAt rfl))
 have HU := Lib.hid hU
 have HK := fun u => Lib.hid (check0 u)
 clear hB hC hp1 hp2 hU
 go_enter Tryz.func41, Tryz.ntmps41
 go_upto_region 9 with fail
 have k0 := (HB _ (Upd.refl _ _)).out
 go_wp2_with fail
 go_loopg [5, 6, 40] (n + 1) (fun gk _ _ v40 wr => ∃ (i : Nat), n - i < gk ∧ i ≤ n ∧ v40 = .int .i64 i ∧ Upd Nowhere w wr)
 case atStart => exact ⟨0, by omega, Nat.zero_le _, rfl, HU.out⟩
 case round =>
  obtain ⟨i, hgk, hin, rfl, hu⟩ := hrel
  obtain ⟨wB, rfl⟩ : ∃ x, x = wr := ⟨_, rfl⟩
  have HGK := Lib.hid hgk
  have HU2 := Lib.hid hu
  clear hgk hu k0
  rcases Nat.lt_or_ge i n with hlt | hge
  · obtain ⟨g, o, rfl, m0, m1, m2, m3, m4, m5, m6, m7, m8, m9, m10, m11, m12, m13, m14, m15⟩ := (HC.out.old HU2.out).get hlt
    have hI : (i : Int) < n := by omega
    go_wp2_with fail
    refine (HK _).out.mono ?_
    rintro y w3 ⟨rfl, u3⟩
    have HU3 : Hid (Upd Nowhere wB w3) := Lib.hid (((Upd.refl _ _).alloc _).trans u3 (fun _ _ h => h))
    clear m0 m1 m2 m3 m4 m5 m6 m7 m8 m9 m10 m11 m12 m13 m14 m15 u3 HK
    go_wp2_with fail
    go_roundg (n - i)
    case rel => exact ⟨i + 1, by omega, by omega, rfl, HU2.out.trans HU3.out (fun _ _ h => h)⟩
    case measure => have := HGK.out; omega
  · obtain rfl : i = n := by omega
    have dI : decide ((i : Int) < i) = false := by simp
    go_wp2_with fail
    go_ret
    exact ⟨rfl, HU2.out⟩
theorem infoK : (Tryz.prog.info? TKp).map (fun i => (i.zero, i.size, i.bytes)) = some (some (.pointer none), 1, 8) := by kernel_rfl
/-- What an egress that is being made has. -/
abbrev MkL (e pace : Nat) (vc : Value) (Q : List (Nat × Nat × Ek)) : List Comp := blkC e #[vc, .slice none 0 0, .int .u64 pace, .int .u64 0, .int .u64 0] TEg :: rowW TKp 1 vc Q.length (ptrs Q) :: clss Q
section
variable {wC w w1 w' : World} {X : Comp} {L : List Comp} {k b e pace : Nat} {vc : Value} {Q : List (Nat × Nat × Ek)}
theorem mk_set {l1 l2 : List Comp} {g : Nat} {cs : Array Value} {t : TypeId} (h : Made wC w (l1 ++ blkC g cs t :: l2)) (j : Nat) (u : Value) : Made wC (w.setCell ⟨g, j, none⟩ u) (l1 ++ blkC g (cs.setIfInBounds j u) t :: l2) := by
 obtain ⟨o, hP, _, hF⟩ := Made.foc _ _ _ h
 refine hF _ o _ ⟨hP.1.set j u, hP.2⟩ ⟨fun _ h => .inl h, (Upd.refl _ _).setCell (a := ⟨g, j, none⟩) (fun _ => (hP.2 _).2 rfl) u⟩
theorem mk_off {l1 l2 : List Comp} {g : Nat} {cs : Array Value} {t : TypeId} (h : Made wC w (l1 ++ blkC g cs t :: l2)) : Blk w g cs t ∧ wC.heap.size ≤ g := by
 obtain ⟨o, hP, h1, _⟩ := Made.foc _ _ _ h
 exact ⟨hP.1, h1 g ((hP.2 _).2 rfl)⟩
theorem mk_join (h : Made wC w (X :: blkC k (KC 0 0 0 (IF b)) TK :: rgC b [] :: L)) : Made wC w (clsC k b k0 :: L) := by
 obtain ⟨own, ⟨oA, oA', hA, ⟨oB, oL, hB, hL, dB, eB⟩, dA, eA⟩, h2, h3⟩ := h.drop
 refine ⟨own, ⟨fun q => oA q ∨ oB q, oL, ⟨oA, oB, hA, Sep.one hB, fun q hq h => dA q hq ((eB q).2 (.inl h)), fun _ => Iff.rfl⟩, hL, fun q hq h => ?_, fun q => ?_⟩, h2, h3⟩
 · rcases hq with h1 | h1
   · exact dA q h1 ((eB q).2 (.inr h))
   · exact dB q h1 h
 · rw [eA q, eB q]
   simp only [or_assoc]
theorem mk_push {vc' : Value} {s : Ek} {n : Nat} (h : Made wC w (clsC k b s :: MkL e pace vc Q)) (hn : Q.length = n) (hx : Upd Nowhere w w1) (ho : w'.ownsRow 0 TKp 1 vc' (n + 1) (ptrs Q ++ [.pointer (some ⟨k, 0, none⟩)])) (hu : Upd (fun q => vc.ownBlock = some q) w1 w') (hno : OwnOrNew w1 vc vc') :
 Made wC (w'.setCell ⟨e, 0, none⟩ vc') (MkL e pace vc' (Q ++ [(k, b, s)])) := by
 have h1 := m_row [clsC k b s, blkC e _ TEg] (clss Q) h hx ho hu hno
 have h2 := mk_set (l1 := [clsC k b s]) (cs := #[vc, .slice none 0 0, .int .u64 pace, .int .u64 0, .int .u64 0]) h1 0 vc'
 have h3 := h2.perm (List.perm_append_singleton (clsC k b s) _).symm
 have e1 : clss (Q ++ [(k, b, s)]) = clss Q ++ [clsC k b s] := by unfold clss; rw [List.map_append]; rfl
 have e2 : ptrs (Q ++ [(k, b, s)]) = ptrs Q ++ [.pointer (some ⟨k, 0, none⟩)] := by unfold ptrs; rw [List.map_append]; rfl
 unfold MkL
 rw [e1, e2, List.length_append, hn]
 exact h3
theorem mk_box {w3 w4 : World} (h : Made wC w (X :: L)) (hu : Upd Nowhere w w1) (h3 : Upd Nowhere w1 w3) (hR : RA w3 b none 4096 []) (ho : w1.heap.size ≤ b) (h4 : Upd Nowhere w3 w4) (hB : Blk w4 k (KC 0 0 0 (IF b)) TK) (hk : w3.heap.size ≤ k) :
 Made wC w4 (X :: blkC k (KC 0 0 0 (IF b)) TK :: rgC b [] :: L) := by
 have h1 := h.more (C := rgC b []) (o := RingOf b none) ⟨none, hR, fun _ => Iff.rfl⟩ (fun q hq => by
  rcases hq with rfl | hq
  · exact Nat.le_trans hu.size ho
  · cases hq) (hu.trans h3 (fun _ _ h => h))
 have h2 := h1.more (C := blkC k (KC 0 0 0 (IF b)) TK) (o := fun q => q = k) ⟨hB, fun _ => Iff.rfl⟩ (fun q hq => by rw [hq]; exact hk) h4
 exact h2.perm (((List.Perm.swap X _ _).cons _).trans (List.Perm.swap X _ _))
end
/-- The row of a class that lets all in, made. -/
theorem made0 (w : World) : Calls Tryz.prog 42 #[.agg VC0] w fun e w' => ∃ b, e = .returned (IF b) ∧ RA w' b none 4096 [] ∧ w.heap.size ≤ b ∧ Upd Nowhere w w' :=
 First.made_f (c := ⟨4096, 0, false, 0, 0, 0, 0, 0, 0, 0, 0, 0, 0, 0, 0, 0⟩) (by decide) (by decide) (by decide)
end Go.Proofs.YtpgpjjkeginbbaaGreatDoor.Ea

