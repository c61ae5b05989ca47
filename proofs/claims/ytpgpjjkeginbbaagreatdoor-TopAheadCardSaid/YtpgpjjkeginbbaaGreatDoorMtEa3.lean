/- Ea3, one behind the other. -/
import Derived.Test.YtpgpjjkeginbbaaGreatDoorMtEa2
import Derived.Deep.LoopGhost
namespace Go.Proofs.YtpgpjjkeginbbaaGreatDoor.Ea
open Go.RowKit Go.Proofs BigFrame
open RingW (It KI zI ZI VI TE RA)
open First (TF VF IF)
open Ah (Ek k0 kin kout pk)
set_option maxHeartbeats 40000000
set_option maxRecDepth 1000000
set_option linter.unusedSimpArgs false
/-- What Next hands back, and leaves: nothing, where no class has anything; else the first one's that has. -/
def nxt (E : Eg) (a : Nat) (r : Nat × (Nat × Nat × Nat) × Nat) (E' : Eg) : Prop :=
 ((∀ x ∈ E.q, x.2.2.l = []) ∧ a = 0 ∧ r = (0, (0, 0, 0), 18) ∧ E' = E) ∨
 ∃ (i k b : Nat) (s : Ek) (x : It) (t : List It), E.q[i]? = some (k, b, s) ∧ s.l = x :: t ∧ (∀ j y, j < i → E.q[j]? = some y → y.2.2.l = []) ∧ a = 1 ∧ r = (i, pk x, 0) ∧ E' = { E with q := E.q.set i (k, b, kout s x t), busy := bsy E x.2.2.1 }
theorem next_any {w : World} {own : Nat → Prop} {e : Nat} {E : Eg} {c : Nat} (h : EgP w own e E) (hE : OkE E c) (hc : c < 1000000000) (hb : ¬ E.now < E.busy) :
 Calls Tryz.prog 18 #[.pointer (some ⟨e, 0, none⟩)] w fun x w' => ∃ a r E', nxt E a r E' ∧ x = .returned (.tuple #[.int .i64 (r.1 : Nat), VP r.2.1, .int .i64 (r.2.2 : Nat)]) ∧ ∃ own', EgP w' own' e E' ∧ Fol w own w' own' := by
 obtain ⟨_, ac, cc, hB, hKX, hvc⟩ := h.blk
 have hU : Upd Nowhere w (w.alloc (.cells zP TP)) := (Upd.refl _ _).alloc _
 have hR : Blk (w.alloc (.cells zP TP)) w.heap.size zP TP := Blk.new _ _ _
 have c0 : (w.alloc (.cells zP TP)).cell? ⟨e, 0, none⟩ = some (.slice ac E.q.length cc) := cell_old hU (hB.cellAt rfl)
 have c3 : (w.alloc (.cells zP TP)).cell? ⟨e, 3, none⟩ = some (.int .u64 (E.now : Nat)) := cell_old hU (hB.cellAt rfl)
 have c4 : (w.alloc (.cells zP TP)).cell? ⟨e, 4, none⟩ = some (.int .u64 (E.busy : Nat)) := cell_old hU (hB.cellAt rfl)
 have hn1 := hE.n1
 have hn2 := hE.n2
 obtain ⟨g, hg⟩ : ∃ g, ac = some ⟨g, 0, none⟩ := by
  obtain ⟨g, h1, _⟩ := hKX 0 E.q[0] (List.getElem?_eq_getElem (by omega))
  exact ⟨g, h1⟩
 subst hg
 obtain ⟨RB, hRB⟩ : ∃ RB, w.heap.size = RB := ⟨_, rfl⟩
 have hno : ¬ own RB := fun h9 => by have := (egC e E).lt h h9; omega
 have hh0 : EgP (w.alloc (.cells zP TP)) own e E := (egC e E).kp h hU (fun _ _ h => h)
 have hf0 : Fol w own (w.alloc (.cells zP TP)) own := (Fol.refl _ _).old hU
 obtain ⟨n, hn⟩ : ∃ n, E.q.length = n := ⟨_, rfl⟩
 rw [hn] at c0 hn1 hn2 hvc
 have d0 : ((n : Int) == 0) = false := by simp; omega
 have d1 : decide (E.now < E.busy) = false := decide_eq_false hb
 have HN := Lib.hid hn
 have HVC := Lib.hid hvc
 have HRB := Lib.hid hRB
 have HCC := Lib.hid hc
 have HE := Lib.hid hE
 have HNO := Lib.hid hno
 have HH0 := Lib.hid hh0
 have HF0 := Lib.hid hf0
 rw [hRB] at hR
 have HR0 := Lib.hid hR
 clear h hE hb hB hR hKX hno hU hn hvc hRB hc hh0 hf0
 go_enter Tryz.func18, Tryz.ntmps18
 go_upto_region 1 with fail
 obtain ⟨w0, hw0⟩ : ∃ x, x = w.alloc (.cells zP TP) := ⟨_, rfl⟩
 rw [← hw0] at HH0 HF0 HR0 c0 c3 c4
 generalize w.alloc (.cells zP TP) = wz at hw0 ⊢
 subst hw0
 try simp only [HRB.out]
 go_wp2_with fail
 go_quiet (fail)
 go_wp2_with fail
 go_loopg [5, 6, 7, 8, 9, 38] (n + 1) (fun gk v5 _ _ _ _ v38 wr => ∃ (i : Nat), n - i < gk ∧ i ≤ n ∧ v5 = .int .i64 18 ∧ v38 = .int .i64 i ∧ Upd Nowhere w0 wr ∧ Hid (∀ j y, j < i → E.q[j]? = some y → y.2.2.l = []))
 case atStart => exact ⟨0, by omega, Nat.zero_le _, rfl, rfl, (Upd.refl _ _).drewN nq, Lib.hid (fun j y hj _ => absurd hj (Nat.not_lt_zero _))⟩
 case round =>
  obtain ⟨i, hgk, hin, rfl, rfl, hu, HPR⟩ := hrel
  obtain ⟨wB, rfl⟩ : ∃ x, x = wr := ⟨_, rfl⟩
  have HGK := Lib.hid hgk
  have HUB := Lib.hid hu
  clear hgk hu
  rcases Nat.lt_or_ge i n with hlt | hge
  · obtain ⟨⟨k, b, s⟩, hx⟩ : ∃ x, E.q[i]? = some x := ⟨E.q[i]'(by have := HN.out; omega), by simp⟩
    have H1 := Lib.hid ((egC e E).kp HH0.out HUB.out (fun _ _ h => h))
    obtain ⟨_, ac2, cc2, hB2, hK2, hv2⟩ := H1.out.blk
    obtain ⟨g2, hg2, hcell⟩ := hK2 i _ hx
    dsimp only at hcell
    rw [HVC.out] at hv2
    injection hv2 with ev1 ev2 ev3
    rw [hg2] at ev1
    injection ev1 with ev1
    injection ev1 with ev1
    subst ev1
    have hI : (i : Int) < n := by omega
    have dI : decide ((i : Int) < n) = true := decide_eq_true hI
    have HX := Lib.hid hx
    have hlen := H1.out.lenOf hx
    cases hl : s.l with
    | nil =>
      have HG := fun u (hu : Upd Nowhere wB u) => Lib.hid (goes_no ((egC e E).kp H1.out hu (fun _ _ h => h)) hx hl)
      rw [hl] at hlen
      obtain ⟨c16, HLN⟩ := hlen
      have HLL := Lib.hid hl
      have hml := ml b
      have HCE := Lib.hid (fun (u : World) (hu : Upd Nowhere wB u) => cell_old hu c16)
      clear hB2 hK2 hg2 ev2 ev3 hx hl c16
      go_wp2_with fail
      go_loopg [2, 4, 8, 9] 1 (fun hk _ _ _ _ wr => 0 < hk ∧ Upd Nowhere wB wr)
      case atStart => exact ⟨Nat.one_pos, Upd.refl _ _⟩
      case round =>
       obtain ⟨hhk, hu1⟩ := hrel
       obtain ⟨wC, rfl⟩ : ∃ x, x = wr := ⟨_, rfl⟩
       go_wp2_with fail
       refine ((HG _ hu1).out).mono ?_
       rintro x w2 ⟨rfl, u2⟩
       have hu2 := hu1.trans u2 (fun _ _ h => h)
       have c16 := HCE.out _ hu2
       clear hu1 u2
       go_wp2_with fail
       refine ((HLN _ hu2).out).mono ?_
       rintro x w3 ⟨rfl, u3⟩
       have HU3 := Lib.hid (HUB.out.trans (hu2.trans u3 (fun _ _ h => h)) (fun _ _ h => h))
       clear hu2 u3 c16
       go_wp2_with fail
       go_roundg (n - i)
       case rel =>
        refine ⟨i + 1, by omega, by omega, rfl, rfl, HU3.out, Lib.hid (fun j y hj hy => ?_)⟩
        rcases Nat.lt_or_ge j i with h' | h'
        · exact HPR.out j y h' hy
        · obtain rfl : i = j := by omega
          rw [HX.out] at hy
          cases hy
          exact HLL.out
       case measure => have := HGK.out; omega
    | cons x t =>
      obtain ⟨x0, x1, x2, x3, x4⟩ := x
      have HG := fun u (hu : Upd Nowhere wB u) => Lib.hid (goes_yes (c := c) ((egC e E).kp H1.out hu (fun _ _ h => h)) HE.out hx hl)
      have HTK := fun u (hu : Upd Nowhere wB u) => Lib.hid (EgP.takeOf ((egC e E).kp H1.out hu (fun _ _ h => h)) hx hl)
      have HLL := Lib.hid hl
      have hmt := mt b
      have hit := (HE.out.q _ (List.mem_of_getElem? hx)).2.2.2 (x0, x1, x2, x3, x4) (by rw [hl]; exact List.mem_cons_self ..)
      dsimp only at hit
      have HIT := Lib.hid hit
      clear hB2 hK2 hg2 ev2 ev3 hx hl hlen hit
      go_wp2_with fail
      go_loopg [2, 4, 8, 9] 1 (fun hk _ _ _ _ wr => 0 < hk ∧ Upd Nowhere wB wr)
      case atStart => exact ⟨Nat.one_pos, Upd.refl _ _⟩
      case round =>
       obtain ⟨hhk, hu1⟩ := hrel
       obtain ⟨wC, rfl⟩ : ∃ x, x = wr := ⟨_, rfl⟩
       go_wp2_with fail
       refine ((HG _ hu1).out).mono ?_
       rintro x w2 ⟨rfl, u2⟩
       have hu2 := hu1.trans u2 (fun _ _ h => h)
       have HU2 := Lib.hid (HUB.out.trans hu2 (fun _ _ h => h))
       obtain ⟨c16, hT⟩ := (HTK _ hu2).out
       have HHT := Lib.hid hT
       clear hu1 u2 hu2 hT HTK HG
       go_wp2_with fail
       refine (HHT.out).mono ?_
       rintro y w3 ⟨rfl, own3, h8, f8⟩
       have F8 := Lib.hid ((HF0.out.old HU2.out).trans f8)
       have hRB2 := Blk.kept HR0.out HU2.out id
       have hRB3 := f8.blk hRB2 HNO.out
       have hno3 := f8.off HNO.out (Blk.lt hRB2)
       have hlt' : i < E.q.length := lt_of_at HX.out
       have hx3 : (E.q.set i (k, b, { s with l := t }))[i]? = some (k, b, { s with l := t }) := by rw [List.getElem?_set, if_pos rfl, if_pos hlt']
       obtain ⟨hok3, hke, hBk⟩ := h8.cells hx3
       have hlt3 : ∀ q, own3 q → q < w3.heap.size := fun q hq => (egC e _).lt h8 hq
       go_upto_region 11 with fail
       have hA : Upd Nowhere w3 (w3.alloc (.cells #[.int .u32 x0, .int .u32 x1, .int .u64 x2, .int .u64 x3, .int .i64 x4] TE)) := (Upd.refl _ _).alloc _
       have hXB : Blk (w3.alloc (.cells #[.int .u32 x0, .int .u32 x1, .int .u64 x2, .int .u64 x3, .int .i64 x4] TE)) w3.heap.size #[.int .u32 x0, .int .u32 x1, .int .u64 x2, .int .u64 x3, .int .i64 x4] TE := Blk.new _ _ _
       have h9 := (egC e _).kp h8 hA (fun _ _ h => h)
       have hBk4 := Blk.kept hBk hA id
       obtain ⟨XB, hXBe⟩ : ∃ XB, w3.heap.size = XB := ⟨_, rfl⟩
       have HNX : Hid (¬ own3 XB) := Lib.hid (fun h => by have := hlt3 _ h; omega)
       have hkx : k ≠ XB := fun h => HNX.out (by rw [← h]; exact hok3)
       have HN3 := Lib.hid hno3
       have HR4 := Lib.hid (Blk.kept hRB3 hA id)
       have F9 := Lib.hid (F8.out.old hA)
       rw [hXBe] at hXB
       have HXB := Lib.hid hXB
       have H9 := Lib.hid h9
       have HBK4 := Lib.hid hBk4
       have HX3 := Lib.hid hx3
       have hkx2 : ¬ XB = k := fun h => hkx h.symm
       clear h8 f8 hRB2 hRB3 hno3 hx3 hBk hlt3 hA h9 hBk4 F8 hXB HHT c16 hmt hok3 hlt'
       generalize w3.alloc (.cells #[.int .u32 x0, .int .u32 x1, .int .u64 x2, .int .u64 x3, .int .i64 x4] TE) = w4 at *
       try simp only [hXBe]
       clear hXBe
       obtain ⟨b1, hb1⟩ : ∃ b1, (s.bys + 18446744073709551616 - x2) % 18446744073709551616 = b1 := ⟨_, rfl⟩
       have esub : IntKind.u64.wrap ((s.bys : Int) - x2) = (b1 : Int) := by rw [IntKind.wrap_u64]; have := HIT.out; omega
       have HB1 := Lib.hid hb1
       have c17 : w4.cell? ⟨k, 17, none⟩ = some (.int .u64 (s.bys : Nat)) := kc17 HBK4.out
       have z17 := Blk.free HBK4.out 17
       obtain ⟨q0, q1, q2, q3, q4, -⟩ := cells5 HXB.out
       clear hb1
       go_upto_region 12 with fail
       refine wp_region_tail 10 (by kernel_rfl) (by kernel_rfl) ?_
       simp only [List.take_succ_cons, List.take_zero, List.drop_succ_cons, List.drop_zero]
       repeat (go_big_quiet_step (fail))
       refine wpQuiet_nil ?_
       rintro _ ⟨nq2, rfl⟩
       go_upto_region 13 with fail
       refine Stage.out ?_
       go_upto_region 13 with fail
       obtain ⟨own5, h10, f10⟩ := EgP.setK (w := w4.drewN nq2) (w1 := w4.drewN nq2) (w' := (w4.drewN nq2).setCell ⟨k, 17, none⟩ (.int .u64 (b1 : Nat))) (s' := { s with l := t, bys := b1 }) ((egC e _).kp H9.out ((Upd.refl _ _).drewN nq2) (fun _ _ h => h)) HX3.out (Upd.refl _ _) ((Upd.refl _ _).setOne 17 _) rfl (fun hB => by simpa using hB.set 17 (.int .u64 (b1 : Nat)))
       have hu5 : Upd Nowhere w4 (w4.drewN nq2) := (Upd.refl _ _).drewN nq2
       have hXB5 := f10.blk (Blk.kept HXB.out hu5 id) HNX.out
       have hRB5 := f10.blk (Blk.kept HR4.out hu5 id) HN3.out
       have hno5 := f10.off HN3.out (Blk.lt (Blk.kept HR4.out hu5 id))
       have hnx5 := f10.off HNX.out (Blk.lt (Blk.kept HXB.out hu5 id))
       have F10 := Lib.hid ((F9.out.old hu5).trans f10)
       have h10' : EgP ((w4.drewN nq2).setCell ⟨k, 17, none⟩ (.int .u64 (b1 : Nat))) own5 e { E with q := E.q.set i (k, b, { s with l := t, bys := b1 }) } := by have h9 := h10; simp only [List.set_set] at h9; exact h9
       clear c17 z17 q0 q1 q2 q3 q4 h10 f10 hu5 H9 HXB HR4 F9 HBK4 HNX HN3 HX3
       generalize (w4.drewN nq2).setCell ⟨k, 17, none⟩ (.int .u64 (b1 : Nat)) = w5 at *
       have hx5 : (E.q.set i (k, b, ({ s with l := t, bys := b1 } : Ek)))[i]? = some (k, b, { s with l := t, bys := b1 }) := by rw [List.getElem?_set, if_pos rfl, if_pos (lt_of_at HX.out)]
       obtain ⟨_, _, hB5⟩ := h10'.cells hx5
       obtain ⟨_, _, _, hB6, -⟩ := h10'.blk
       have c3 : w5.cell? ⟨e, 3, none⟩ = some (.int .u64 (E.now : Nat)) := hB6.cellAt rfl
       have HDR := fun u (hu : Upd Nowhere w5 u) => Lib.hid (drops_no (Blk.kept hB5 hu id) x0 x1 x2 x3 x4 E.now s.bys)
       have HXB5 := Lib.hid hXB5
       have HRB5 := Lib.hid hRB5
       have HNO5 := Lib.hid hno5
       have HNX5 := Lib.hid hnx5
       have H10 := Lib.hid h10'
       have HX5 := Lib.hid hx5
       obtain ⟨q0, q1, q2, q3, q4, -⟩ := cells5 hXB5
       clear hXB5 hRB5 hno5 hnx5 hB5 hB6 h10' hx5
       refine wp_region_tail 7 (by kernel_rfl) (by kernel_rfl) ?_
       simp only [List.take_succ_cons, List.take_zero, List.drop_succ_cons, List.drop_zero]
       repeat (go_big_quiet_step (fail))
       refine wpQuiet_nil ?_
       rintro _ ⟨nq3, rfl⟩
       go_wp2_with fail
       refine ((HDR _ ((Upd.refl _ _).drewN nq3)).out).mono ?_
       rintro y w6 ⟨rfl, u6⟩
       have u56 : Upd Nowhere w5 w6 := ((Upd.refl _ _).drewN nq3).trans u6 (fun _ _ h => h)
       have HXB6 := Lib.hid (Blk.kept HXB5.out u56 id)
       have HRB6 := Lib.hid (Blk.kept HRB5.out u56 id)
       have F13 := Lib.hid (F10.out.old u56)
       have h13 := (egC e _).kp H10.out u56 (fun _ _ h => h)
       have hleft := (HE.out.q _ (List.mem_of_getElem? HX.out)).2.1
       have HLV := Lib.hid (leave_any (c := c) h13 HE.out.pc2 HE.out.now HCC.out HX5.out hleft x0 x1 x2 HIT.out)
       dsimp only at HLV
       clear u6 u56 HDR HXB5 HRB5 F10 q0 q1 q2 q3 q4 c3 h13 hleft H10
       go_wp2_with fail
       refine Stage.out ?_
       obtain ⟨q0, q1, q2, q3, q4, -⟩ := cells5 HXB6.out
       go_wp2_with fail
       refine (HLV.out).mono ?_
       rintro y w7 ⟨rfl, own7, h14, f14⟩
       have h15 : EgP w7 own7 e { E with q := E.q.set i (k, b, kout s (x0, x1, x2, x3, x4) t), busy := bsy E x2 } := by
        have h9 := h14
        simp only [List.set_set] at h9
        unfold kout
        dsimp only
        rw [HB1.out]
        exact h9
       have hXB7 := f14.blk HXB6.out HNX5.out
       have hRB7 := f14.blk HRB6.out HNO5.out
       have HNO7 := Lib.hid (f14.off HNO5.out (Blk.lt HRB6.out))
       have F14 := Lib.hid (F13.out.trans f14)
       have H15 := Lib.hid h15
       have hne : ¬ RB = XB := fun h => by
        have h1 := HXB6.out
        have h2 := HRB6.out
        rw [h] at h2
        unfold Blk at h1 h2
        rw [h1] at h2
        injection h2 with h2
        injection h2 with h2 _
        have := congrArg Array.size h2
        simp at this
       clear h14 f14 h15 HLV q0 q1 q2 q3 q4
       obtain ⟨q0, q1, q2, q3, q4, -⟩ := cells5 hXB7
       obtain ⟨r0, r1, r2, z0, z1, z2⟩ := cells3 hRB7
       clear hXB7 hRB7
       have HFIN : Hid (∀ W, Upd (fun q => q = RB) w7 W → ∃ a r E', nxt E a r E' ∧ Ending.returned (.tuple #[.int .i64 i, VP (x0, x1, x2), .int .i64 0]) = .returned (.tuple #[.int .i64 (r.1 : Nat), VP r.2.1, .int .i64 (r.2.2 : Nat)]) ∧ ∃ own', EgP W own' e E' ∧ Fol w own W own') := Lib.hid (fun W hW => ⟨1, (i, (x0, x1, x2), 0), _, .inr ⟨i, k, b, s, (x0, x1, x2, x3, x4), t, HX.out, HLL.out, HPR.out, rfl, rfl, rfl⟩, rfl, own7, (egC e _).kp H15.out hW (fun q hq h9 => HNO7.out (by rw [← h9]; exact hq)), F14.out.ret hW (by rw [HRB.out]; exact Nat.le_refl _)⟩)
       go_wp2_with fail
       go_region
       all_goals
        go_wp2_with fail
        refine bodyPost_ret (v := .tuple #[.int .i64 i, VP (x0, x1, x2), .int .i64 0]) (by simp [results, Tryz.results18, go_sem, r0, r1, r2]) rfl (HFIN.out _ ?_)
        (repeat (first | with_reducible exact Upd.refl _ _ | with_reducible refine Upd.drewN ?_ _ | with_reducible refine Upd.drew ?_ | with_reducible refine Upd.setOne ?_ _ _))
  · obtain rfl : i = n := by omega
    have dI : decide ((i : Int) < i) = false := by simp
    have hRB2 := Blk.kept HR0.out HUB.out id
    obtain ⟨r0, r1, r2, z0, z1, z2⟩ := cells3 hRB2
    have HFIN : Hid (∀ W, Upd (fun q => q = RB) wB W → ∃ a r E', nxt E a r E' ∧ Ending.returned (.tuple #[.int .i64 0, VP (0, 0, 0), .int .i64 18]) = .returned (.tuple #[.int .i64 (r.1 : Nat), VP r.2.1, .int .i64 (r.2.2 : Nat)]) ∧ ∃ own', EgP W own' e E' ∧ Fol w own W own') := Lib.hid (fun W hW => ⟨0, (0, (0, 0, 0), 18), E, .inl ⟨fun x hx => by
     obtain ⟨j, hj⟩ := List.getElem?_of_mem hx
     exact HPR.out j x (by have := lt_of_at hj; have := HN.out; omega) hj, rfl, rfl, rfl⟩, rfl, own, (egC e E).kp ((egC e E).kp HH0.out HUB.out (fun _ _ h => h)) hW (fun q hq h9 => HNO.out (by rw [← h9]; exact hq)), (HF0.out.old HUB.out).ret hW (by rw [HRB.out]; exact Nat.le_refl _)⟩)
    clear hRB2
    go_wp2_with fail
    refine bodyPost_ret (v := .tuple #[.int .i64 0, VP (0, 0, 0), .int .i64 18]) (by simp [results, Tryz.results18, go_sem, r0, r1, r2]) rfl (HFIN.out _ ?_)
    (repeat (first | with_reducible exact Upd.refl _ _ | with_reducible refine Upd.drewN ?_ _ | with_reducible refine Upd.drew ?_ | with_reducible refine Upd.setOne ?_ _ _))
end Go.Proofs.YtpgpjjkeginbbaaGreatDoor.Ea

