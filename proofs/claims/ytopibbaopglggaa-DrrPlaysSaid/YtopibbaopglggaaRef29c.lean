/- The reference's turns: Next. -/
import Derived.Test.YtopibbaopglggaaRef29b
import Derived.Test.YtopibbaopglggaaRef29P
import Derived.Deep.CutBlock
import Derived.Deep.DeepCutAuto
import Derived.Deep.LoopGhost
namespace Go.Proofs.Ytopibbaopglggaa.Ref29
open Go.RowKit Go.Proofs BigFrame
open Ref12 (nums vals)
open Drr (Turn Fits spin meas hdOf startCr left spin_stop spin_on meas_on hdOf_cons)
set_option maxHeartbeats 1000000
set_option maxRecDepth 1000000
theorem cof_perC (its : List It) (c : Nat) : cof its c = (perC its c).length := by unfold cof perC; rw [List.length_map]
theorem st3 {S : Nat → Prop} {w w' : World} {g : Nat} (h : Upd S w w') (hg : S g) (v0 v1 v2 : Value) : Upd S w (((w'.setCell ⟨g, 0, none⟩ v0).setCell ⟨g, 1, none⟩ v1).setCell ⟨g, 2, none⟩ v2) := ((h.setCell (a := ⟨g, 0, none⟩) (fun _ => hg) v0).setCell (a := ⟨g, 1, none⟩) (fun _ => hg) v1).setCell (a := ⟨g, 2, none⟩) (fun _ => hg) v2
/-- Where the search for whose turn it is stands. -/
structure G29 (B : Nat) (w wr : World) (b n gq oq cq : Nat) (cv iv rv : Value) (q : Nat → Nat) (its : List It) (tgt st2 : Turn) (iv2 rv2 : Value) (f : Nat) : Prop where
  r : R B wr b n n gq oq cq cv iv2 rv2 q st2.cr its st2.row st2.begun
  fit : Fits n q (perC its) st2
  ne : st2.row ≠ []
  lt : meas n st2 < f
  sp : spin q (hdOf (perC its)) f st2 = tgt
  own : ∀ k, Of b cv iv2 rv2 k → Of b cv iv rv k ∨ w.heap.size < k
  upd : Upd (Of b cv iv rv) w wr
  zb : Blk wr w.heap.size #[.int .i64 0, .int .u64 0, .int .i64 0] TI
section
variable {B : Nat} {w : World} {b n gq oq cq : Nat} {cv iv rv : Value} {q : Nat → Nat} {its : List It} {st : Turn}
theorem next_none (h : R B w b n n gq oq cq cv iv rv q st.cr its [] st.begun) :
    Calls Try.prog 37 #[.pointer (some ⟨b, 0, none⟩)] w fun e w' => e = .returned (.tuple #[.agg #[.int .i64 0, .int .u64 0, .int .i64 0], .bool false]) ∧ Upd Nowhere w w' := by
  obtain ⟨ar, cc, rfl⟩ := own_form h.rww
  obtain ⟨c0, c1, c2, c3, c4, z0, z1, z2, z3, z4⟩ := cells5 h.blk
  have b3 : (w.alloc (.cells #[.int .i64 0, .int .u64 0, .int .i64 0] TI)).cell? ⟨b, 3, none⟩ = some (.slice ar 0 cc) := cell_old ((Upd.refl _ _).alloc _) c3
  clear h
  go_enter Try.func37, Try.ntmps37
  go_wp2_with fail
  go_loopg [3] 1 (fun _ d wr => d = .bool false ∧ wr = w.alloc (.cells #[.int .i64 0, .int .u64 0, .int .i64 0] TI))
  case atStart => exact ⟨rfl, rfl⟩
  case round =>
    obtain ⟨rfl, rfl⟩ := hrel
    have hB : Blk (w.alloc (.cells #[.int .i64 0, .int .u64 0, .int .i64 0] TI)) w.heap.size #[.int .i64 0, .int .u64 0, .int .i64 0] TI := Blk.new _ _ _
    obtain ⟨y0, y1, y2, f0, f1, f2⟩ := cells3 hB
    go_wp2_with fail
    exact bodyPost_ret (v := .tuple #[.agg #[.int .i64 0, .int .u64 0, .int .i64 0], .bool false]) (by simp [results, Try.results37, go_sem, y0, y1, y2]) rfl ⟨rfl, by repeat (first | exact (Upd.refl Nowhere w).alloc _ | refine Upd.setNew ?_ (Nat.le_refl _) _)⟩
theorem next_some (h : R B w b n n gq oq cq cv iv rv q st.cr its st.row st.begun) (hn1 : 0 < n) (hn2 : n ≤ 64) (hf : Fits n q (perC its) st) (hne : st.row ≠ []) (hB : B ≤ w.heap.size) (hl : its.length ≤ 70000) {c : Nat} {r : List Nat} {cr' : Nat → Nat} (hsp : spin q (hdOf (perC its)) (meas n st + 1) st = ⟨c :: r, true, cr'⟩) {x : Nat × Int} {t : List (Nat × Int)} (hx : perC its c = x :: t) :
    Calls Try.prog 37 #[.pointer (some ⟨b, 0, none⟩)] w fun e w' => e = .returned (.tuple #[.agg #[.int .i64 (c : Nat), .int .u64 (x.1 : Nat), .int .i64 x.2], .bool true]) ∧
      ∃ its', perC its' = upd (perC its) c t ∧ its'.length + 1 = its.length ∧ (∀ e ∈ its', e ∈ its) ∧ Turned B w w' b n gq oq cq cv iv rv q (left c r cr' x.1 t.isEmpty).cr its' (left c r cr' x.1 t.isEmpty).row (left c r cr' x.1 t.isEmpty).begun := by
  obtain ⟨i0, hi, hz0, hz1, hz2⟩ := info_parts infoI
  have hu0 : Upd Nowhere w (w.alloc (.cells #[.int .i64 0, .int .u64 0, .int .i64 0] TI)) := (Upd.refl _ _).alloc _
  have H0 := Lib.hid (h.old hu0)
  have HF0 := Lib.hid hf
  have HNE := Lib.hid hne
  have HSP := Lib.hid hsp
  have HX := Lib.hid hx
  have HU0 := Lib.hid (hu0.any (Of b cv iv rv))
  obtain ⟨gc, ccv, rfl⟩ := h.cform hn1
  have hlts := fun k hk => (h.lts (k := k) hk).2
  have HLTS := Lib.hid hlts
  clear h hf hne hsp hx hu0 hlts
  go_enter Try.func37, Try.ntmps37
  go_wp2_with fail
  go_loopg [3] (meas n st + 1) (fun gk d wr => d = .bool false ∧ ∃ st2 iv2 rv2, G29 B w wr b n gq oq cq (.slice (some ⟨gc, 0, none⟩) n ccv) iv rv q its ⟨c :: r, true, cr'⟩ st2 iv2 rv2 gk)
  case atStart => exact ⟨rfl, st, iv, rv, H0.out, HF0.out, HNE.out, Nat.lt_succ_self _, HSP.out, fun k hk => .inl hk, HU0.out, Blk.new _ _ _⟩
  case round =>
    obtain ⟨rfl, st2, iv2, rv2, hG⟩ := hrel
    have hgk := hG.lt
    obtain ⟨f, rfl⟩ : ∃ f, gk = f + 1 := ⟨gk - 1, by omega⟩
    obtain ⟨wB, rfl⟩ : ∃ x, x = wr := ⟨_, rfl⟩
    obtain ⟨c2', r2, hrow⟩ : ∃ a b, st2.row = a :: b := by
      cases hr : st2.row with
      | nil => exact absurd hr hG.ne
      | cons a b => exact ⟨a, b, rfl⟩
    obtain ⟨hc2n, ⟨s2, id2⟩, l2, hx2⟩ := hG.fit.head hrow
    have hst2 := hG.fit.start_le hrow
    have hrl := hG.fit.rlen
    have hR := hG.r
    rw [hrow] at hR hrl
    obtain ⟨gr, ccr, rfl, kr⟩ := hR.rcell (i := 0) (x := c2') rfl
    obtain ⟨N, hN⟩ : ∃ N, (c2' :: r2).length = N := ⟨_, rfl⟩
    have hN0 : 0 < N := by rw [← hN]; simp
    rw [hN] at hR hrl
    have g0 : (0 : Int) < N := by omega
    have d0 : decide ((N : Int) > 0) = true := decide_eq_true (by omega)
    have d1 : decide ((0 : Int) < N) = true := decide_eq_true (by omega)
    have d2 : decide (0 < N) = true := decide_eq_true hN0
    have gI : (c2' : Int) < n := by omega
    obtain ⟨c0, c1, c2, c3, c4, z0, z1, z2, z3, z4⟩ := cells5 hR.blk
    obtain ⟨kc, yc⟩ := hR.ccell hc2n
    have kq := hR.qc c2' hc2n
    have HG := Lib.hid hG
    have HR := Lib.hid hR
    have HROW := Lib.hid hrow
    have HX2 := Lib.hid hx2
    have HNN := Lib.hid hN
    have hszB := hG.upd.size
    have hq2 := hG.fit.q2 c2' hc2n
    clear hG hR hrow hx2 hN H0 HF0 HNE HSP HU0
    obtain ⟨cr1, hcr1⟩ : ∃ y, startCr q st2 c2' = y := ⟨_, rfl⟩
    rw [hcr1] at hst2
    have HCR1 := Lib.hid hcr1
    clear hcr1
    go_upto_if 24 with fail
    go_cut [] (fun wc => R B wc b n n gq oq cq (.slice (some ⟨gc, 0, none⟩) n ccv) iv2 (.slice (some ⟨gr, 0, none⟩) N ccr) q cr1 its (c2' :: r2) true ∧ Upd (Of b (.slice (some ⟨gc, 0, none⟩) n ccv) iv rv) w wc ∧ Blk wc w.heap.size #[.int .i64 0, .int .u64 0, .int .i64 0] TI)
    case first =>
      cases hbg : st2.begun with
      | true =>
        have e1 : cr1 = st2.cr := by rw [← HCR1.out]; unfold startCr; rw [if_pos hbg]
        have HE1 := Lib.hid e1
        have HR1 := HR.out
        rw [hbg] at HR1
        clear e1
        go_wp2_with fail
        go_meet
        exact ⟨by rw [HE1.out]; exact HR1, HG.out.upd, HG.out.zb⟩
      | false =>
        have e1 : cr1 = upd st2.cr c2' (st2.cr c2' + q c2') := by rw [← HCR1.out]; unfold startCr; rw [if_neg (by rw [hbg]; simp)]
        have e2 : cr1 c2' = st2.cr c2' + q c2' := by rw [e1, upd_at]
        rw [e2] at hst2
        have HE1 := Lib.hid e1
        generalize hca : st2.cr c2' = ca at *
        generalize q c2' = qa at *
        have e3 : IntKind.u64.wrap ((ca : Int) + (qa : Int)) = ((ca + qa : Nat) : Int) := by simp [IntKind.wrap, IntKind.bits, IntKind.signed]; omega
        obtain ⟨sm, hsm⟩ : ∃ sm, ca + qa = sm := ⟨_, rfl⟩
        rw [hsm] at e3
        have HSM := Lib.hid hsm
        have HCA := Lib.hid hca
        rw [hbg] at c4
        clear e1 e2 hst2 hsm hca
        go_upto_region 4 with fail
        refine wp_region_tail 16 (by kernel_rfl) (by kernel_rfl) ?_
        simp only [List.take_succ_cons, List.take_zero, List.drop_succ_cons, List.drop_zero]
        repeat (go_big_quiet_step (fail))
        refine wpQuiet_nil ?_
        rintro _ ⟨nq, rfl⟩
        go_wp2
        refine Stage.out ?_
        have hlg : gc < w.heap.size := HLTS.out gc (.inr (.inl rfl))
        have hlb : b < w.heap.size := HLTS.out b (.inl rfl)
        have HR5 := Lib.hid ((HR.out.old ((Upd.refl Nowhere wB).drewN nq)).setC hc2n sm)
        have HU5 := Lib.hid ((HG.out.upd.drewN nq).setCell (a := ⟨gc, c2', none⟩) (fun _ => .inr (.inl rfl)) (.int .u64 (sm : Nat)))
        have HZ5 := Lib.hid (Blk.setOther (HG.out.zb.drewN nq) (a := ⟨gc, c2', none⟩) (show w.heap.size ≠ gc by omega) (.int .u64 (sm : Nat)))
        obtain ⟨w5, hw5⟩ : ∃ w5, (wB.drewN nq).setCell ⟨gc, c2', none⟩ (.int .u64 (sm : Nat)) = w5 := ⟨_, rfl⟩
        rw [hw5] at HR5 HU5 HZ5 ⊢
        clear c0 c1 c2 c3 c4 z0 z1 z2 z3 z4 kc yc kq kr hw5
        obtain ⟨c0, c1, c2, c3, c4, z0, z1, z2, z3, z4⟩ := cells5 HR5.out.blk
        rw [hbg] at c4
        go_wp2_with fail
        go_meet
        refine ⟨?_, HU5.out.setCell (a := ⟨b, 4, none⟩) (fun _ => .inl rfl) _, Blk.setOther HZ5.out (a := ⟨b, 4, none⟩) (show w.heap.size ≠ b by omega) _⟩
        have h := HR5.out.setBg true
        rw [← HSM.out, ← HCA.out] at h
        rw [HE1.out, ← HCA.out]
        exact h
    case rest =>
      obtain ⟨hR1, hU1, hZ1⟩ := hcut
      obtain ⟨wq, rfl⟩ : ∃ x, x = wc := ⟨_, rfl⟩
      have hgr : gr < wq.heap.size := (hR1.lts (.inr (.inr (.inr rfl)))).2
      obtain ⟨i, he, hlo, hpc⟩ := first_ex HX2.out
      obtain ⟨gi, cgi, hiv, k0, k1, k2⟩ := hR1.icell he
      subst hiv
      obtain ⟨L, hL⟩ : ∃ L, its.length = L := ⟨_, rfl⟩
      have hiL : i < L := by rw [← hL]; exact (List.getElem?_eq_some_iff.1 he).1
      have gL : (i : Int) < L := by omega
      have HFI := Lib.hid (first_any hR1 (by omega) c2' i he rfl hlo)
      rw [hL] at hl hR1
      obtain ⟨c0, c1, c2, c3, c4, z0, z1, z2, z3, z4⟩ := cells5 hR1.blk
      have HR1 := Lib.hid hR1
      have HU1 := Lib.hid hU1
      have HZ1 := Lib.hid hZ1
      have HE := Lib.hid he
      have HPC := Lib.hid hpc
      have HL := Lib.hid hL
      have hszC := hU1.size
      clear hR1 hU1 hZ1 he hlo hpc hL kc yc kq kr HR
      go_wp2_with fail
      refine (HFI.out).mono ?_
      rintro e w' ⟨rfl, rfl⟩
      go_upto_region 8 with fail
      have hX4 : Blk (wq.alloc (.cells #[.int .i64 (c2' : Nat), .int .u64 (s2 : Nat), .int .i64 id2] TI)) wq.heap.size #[.int .i64 (c2' : Nat), .int .u64 (s2 : Nat), .int .i64 id2] TI := Blk.new _ _ _
      have hu4 : Upd Nowhere wq (wq.alloc (.cells #[.int .i64 (c2' : Nat), .int .u64 (s2 : Nat), .int .i64 id2] TI)) := (Upd.refl _ _).alloc _
      have HR4 := Lib.hid (HR1.out.old hu4)
      have HU4 := Lib.hid (HU1.out.trans hu4 (fun _ _ h => h.elim))
      have HZ4 := Lib.hid (HZ1.out.kept hu4 id)
      generalize wq.alloc (.cells #[.int .i64 (c2' : Nat), .int .u64 (s2 : Nat), .int .i64 id2] TI) = w4 at *
      have hwc4 := hX4.lt
      clear hu4 c0 c1 c2 c3 c4 z0 z1 z2 z3 z4 k0 k1 k2
      obtain ⟨x0, x1, x2, yx0, yx1, yx2⟩ := cells3 hX4
      obtain ⟨c0, c1, c2, c3, c4, z0, z1, z2, z3, z4⟩ := cells5 HR4.out.blk
      obtain ⟨kc, yc⟩ := HR4.out.ccell hc2n
      obtain ⟨ca, hca⟩ : ∃ ca, cr1 c2' = ca := ⟨_, rfl⟩
      rw [hca] at kc hst2
      have HCA := Lib.hid hca
      clear hca
      by_cases hst : s2 ≤ ca
      · have d3 : decide ((s2 : Int) > ca) = false := decide_eq_false (by omega)
        have d4 : decide ((ca : Int) < s2) = false := decide_eq_false (by omega)
        have d5 : decide (ca < s2) = false := decide_eq_false (by omega)
        have hsp2 := HG.out.sp
        rw [spin_stop HROW.out (by rw [HCR1.out, HCA.out, hdOf_cons HX2.out]; exact hst), HCR1.out] at hsp2
        injection hsp2 with e1 e2 e3
        injection e1 with e4 e5
        subst e3 e4 e5
        have hxx := HX.out
        rw [HX2.out] at hxx
        injection hxx with e6 e7
        subst e6 e7
        clear e2 HX
        go_quiet (fail)
        obtain ⟨w5, hw5⟩ : ∃ w5, w4.drewN nq = w5 := ⟨_, rfl⟩
        have hu45 : Upd Nowhere w4 w5 := by rw [← hw5]; exact (Upd.refl _ _).drewN _
        rw [hw5]
        have HR5 := Lib.hid (HR4.out.old hu45)
        have HX5 := Lib.hid (hX4.kept hu45 id)
        have HU5 := Lib.hid (HU4.out.trans hu45 (fun _ _ h => h.elim))
        have HZ5 := Lib.hid (HZ4.out.kept hu45 id)
        have hlz5 := HZ5.out.lt
        have hxl5 := HX5.out.lt
        have hzc : w.heap.size < wq.heap.size := HZ1.out.lt
        clear hw5 hu45 c0 c1 c2 c3 c4 z0 z1 z2 z3 z4 kc yc x0 x1 x2 yx0 yx1 yx2 HR4 hX4 HU4 HZ4 HR1 HU1 HZ1
        obtain ⟨x0, x1, x2, yx0, yx1, yx2⟩ := cells3 HX5.out
        obtain ⟨c0, c1, c2, c3, c4, z0, z1, z2, z3, z4⟩ := cells5 HR5.out.blk
        obtain ⟨kc, yc⟩ := HR5.out.ccell hc2n
        rw [HCA.out] at kc
        have hlg : gc < w.heap.size := HLTS.out gc (.inr (.inl rfl))
        have hlb : b < w.heap.size := HLTS.out b (.inl rfl)
        have e3 : IntKind.u64.wrap ((ca : Int) - (s2 : Int)) = ((ca - s2 : Nat) : Int) := by simp [IntKind.wrap, IntKind.bits, IntKind.signed]; omega
        obtain ⟨sm, hsm⟩ : ∃ sm, ca - s2 = sm := ⟨_, rfl⟩
        rw [hsm] at e3
        have HSM := Lib.hid hsm
        clear hsm
        go_upto_region 10 with fail
        refine wp_region_tail 11 (by kernel_rfl) (by kernel_rfl) ?_
        simp only [List.take_succ_cons, List.take_zero, List.drop_succ_cons, List.drop_zero]
        repeat (go_big_quiet_step (fail))
        refine wpQuiet_nil ?_
        rintro _ ⟨nq2, rfl⟩
        go_wp2
        refine Stage.out ?_
        obtain ⟨w6, hw6⟩ : ∃ w6, (w5.drewN nq2).setCell ⟨gc, c2', none⟩ (.int .u64 (sm : Nat)) = w6 := ⟨_, rfl⟩
        have HR6 := Lib.hid ((HR5.out.old ((Upd.refl Nowhere w5).drewN nq2)).setC hc2n sm)
        have HX6 := Lib.hid (Blk.setOther (HX5.out.drewN nq2) (a := ⟨gc, c2', none⟩) (show wq.heap.size ≠ gc by omega) (.int .u64 (sm : Nat)))
        have HU6 := Lib.hid ((HU5.out.drewN nq2).setCell (a := ⟨gc, c2', none⟩) (fun _ => .inr (.inl rfl)) (.int .u64 (sm : Nat)))
        have HZ6 := Lib.hid (Blk.setOther (HZ5.out.drewN nq2) (a := ⟨gc, c2', none⟩) (show w.heap.size ≠ gc by omega) (.int .u64 (sm : Nat)))
        rw [hw6] at HR6 HX6 HU6 HZ6 ⊢
        clear c0 c1 c2 c3 c4 z0 z1 z2 z3 z4 kc yc x0 x1 x2 yx0 yx1 yx2 hw6 HR5 HX5 HU5 HZ5
        obtain ⟨c0, c1, c2, c3, c4, z0, z1, z2, z3, z4⟩ := cells5 HR6.out.blk
        have hcap : L ≤ cgi := by
          rcases HR6.out.itm.2 with ⟨h0, _⟩ | ⟨g', c', cur, he, _, _, h1, _⟩
          · cases h0
          · cases he; have := HL.out; omega
        obtain ⟨m2, rfl⟩ : ∃ m2, L = i + 1 + m2 := ⟨L - (i + 1), by omega⟩
        obtain ⟨cx, rfl⟩ : ∃ cx, cgi = i + 1 + cx := ⟨cgi - (i + 1), by omega⟩
        have hsz6 := HU6.out.size
        have hlx6 := HX6.out.lt
        have hS1 : ∀ b', (some ⟨gi, 0, none⟩ : Option Addr) = some b' → ∀ j u, (icells (its.take i))[j]? = some u → w6.cell? (b'.add j) = some u := fun b' hb j u hu => by
          cases hb
          have hj : (icells its)[j]? = some u := by
            rw [icells_take] at hu
            have := (List.getElem?_eq_some_iff.1 hu).1
            rw [List.length_take] at this
            rw [← hu, List.getElem?_take_of_lt (by omega)]
          have h9 := HR6.out.itm
          rw [HL.out] at h9
          exact World.ownsRow.cells h9 rfl j u hj
        go_upto_region 13 with (at_builtin; refine wpList_app rfl _ _ 83 rfl w6.heap.size TI i0 (.agg #[.int .i64 0, .int .u64 0, .int .i64 0]) 3 24 Try.underlying83 hi hz0 hz1 hz2 rfl (by decide) (by decide) (.slice none 0 0) 0 [] rfl (ownsRow_nil _ _ _ _) (some ⟨gi, 0, none⟩) i _ (icells (its.take i)) rfl (by intro h; cases h) (by rw [icells_len, List.length_take, HL.out]; congr 1; omega) hS1 (icells_one _) (by omega) (Nat.le_refl _) ?_; intro v7 w7 hown7 hu7 hno7; rw [Nat.zero_add, List.nil_append] at hown7; obtain ⟨ad7, c7, rfl⟩ := own_form hown7; have HU7 := Lib.hid (show Upd Nowhere w6 w7 from hu7.mono (fun k _ h => by cases h)); have HO7 := Lib.hid hown7; clear hown7 hu7 hno7)
        have HR7 := Lib.hid (HR6.out.old HU7.out)
        have HX7 := Lib.hid (HX6.out.kept HU7.out id)
        have HZ7 := Lib.hid (HZ6.out.kept HU7.out id)
        have hsz7 := HU7.out.size
        have h7lo : ∀ k, (Value.slice ad7 i c7).ownBlock = some k → w6.heap.size ≤ k := fun k hk => (HO7.out.lt k hk).1
        have HLO7 := Lib.hid h7lo
        clear c0 c1 c2 c3 c4 z0 z1 z2 z3 z4 h7lo hS1
        obtain ⟨c0, c1, c2, c3, c4, z0, z1, z2, z3, z4⟩ := cells5 HR7.out.blk
        have hcx2 : m2 ≤ cx := by omega
        have g1 : (i : Int) + 1 ≤ ((i + 1 + m2 : Nat) : Int) := by omega
        have hD : (icells (its.drop (i + 1))).length = m2 * 3 := by rw [icells_len, List.length_drop, HL.out]; congr 1; omega
        have hlen : (its.take i ++ its.drop (i + 1)).length = i + m2 := by rw [List.length_append, List.length_take, List.length_drop, HL.out]; omega
        have HLL := Lib.hid hlen
        have hS2 : ∀ b', (some ⟨gi, (i + 1) * 3, none⟩ : Option Addr) = some b' → ∀ j u, (icells (its.drop (i + 1)))[j]? = some u → w7.cell? (b'.add j) = some u := fun b' hb j u hu => by
          cases hb
          rw [icells_drop, List.getElem?_drop] at hu
          have h9 := HR7.out.itm
          rw [HL.out] at h9
          have h8 := World.ownsRow.cells h9 rfl _ u hu
          rw [add_at] at h8 ⊢
          rw [Nat.zero_add] at h8
          exact h8
        clear hlen
        go_cut [] (fun wx => ∃ v8, R B wx b n n gq oq cq (.slice (some ⟨gc, 0, none⟩) n ccv) v8 (.slice (some ⟨gr, 0, none⟩) N ccr) q (upd cr1 c2' sm) (its.take i ++ its.drop (i + 1)) (c2' :: r2) true ∧ (∀ k, v8.ownBlock = some k → w6.heap.size ≤ k) ∧ Upd (Of b (.slice (some ⟨gc, 0, none⟩) n ccv) iv rv) w wx ∧ Blk wx wq.heap.size #[.int .i64 (c2' : Nat), .int .u64 (s2 : Nat), .int .i64 id2] TI ∧ Blk wx w.heap.size #[.int .i64 0, .int .u64 0, .int .i64 0] TI)
        case first =>
          by_cases hcx : cx = 0
          · subst hcx
            obtain rfl : m2 = 0 := by omega
            have hS0 : ∀ b', (some ⟨gi, 0, none⟩ : Option Addr) = some b' → ∀ j u, (icells (its.drop (i + 1)))[j]? = some u → w7.cell? (b'.add j) = some u := fun b' hb j u hu => by
              have := (List.getElem?_eq_some_iff.1 hu).1; omega
            go_wp2_with (at_builtin; refine wpList_app rfl _ _ 83 rfl w6.heap.size TI i0 (.agg #[.int .i64 0, .int .u64 0, .int .i64 0]) 3 24 Try.underlying83 hi hz0 hz1 hz2 rfl (by decide) (by decide) (.slice ad7 i c7) i (icells (its.take i)) rfl HO7.out (some ⟨gi, 0, none⟩) 0 0 (icells (its.drop (i + 1))) rfl (by intro h; cases h) hD hS0 (icells_one _) (by omega) hsz7 ?_; intro v8 w8 hown8 hu8 hno8; have HU8 := Lib.hid (HU7.out.trans hu8 (fun k hk h => absurd hk (Nat.not_lt.2 (HLO7.out k h)))); have hg := HR6.out.newIts (wx := w6) (w1 := w8) (v := v8) (its' := its.take i ++ its.drop (i + 1)) (Upd.refl _ _) (HU8.out.any _) (by rw [icells_append, HLL.out]; exact ownsRow_base hown8 (Nat.le_trans hB hsz6)) (fun k hk => .inr (hown8.lt k hk).1); have HO8 := Lib.hid hown8; have HH8 := Lib.hid hg.1; obtain ⟨x0, x1, x2, x3, x4, f0, f1, f2, f3, f4⟩ := cells5 hg.2; obtain ⟨ad8, c8, rfl⟩ := own_form hown8; clear hg hown8 hu8 hno8)
            go_meet
            exact ⟨_, HH8.out, fun k hk => (HO8.out.lt k hk).1, (HU6.out.trans HU8.out (fun _ _ h => h.elim)).setCell (a := ⟨b, 2, none⟩) (fun _ => .inl rfl) _, Blk.setOther (HX6.out.kept HU8.out id) (a := ⟨b, 2, none⟩) (show wq.heap.size ≠ b by omega) _, Blk.setOther (HZ6.out.kept HU8.out id) (a := ⟨b, 2, none⟩) (show w.heap.size ≠ b by omega) _⟩
          · go_wp2_with (at_builtin; refine wpList_app rfl _ _ 83 rfl w6.heap.size TI i0 (.agg #[.int .i64 0, .int .u64 0, .int .i64 0]) 3 24 Try.underlying83 hi hz0 hz1 hz2 rfl (by decide) (by decide) (.slice ad7 i c7) i (icells (its.take i)) rfl HO7.out (some ⟨gi, (i + 1) * 3, none⟩) m2 cx (icells (its.drop (i + 1))) rfl (by intro h; cases h) hD hS2 (icells_one _) (by omega) hsz7 ?_; intro v8 w8 hown8 hu8 hno8; have HU8 := Lib.hid (HU7.out.trans hu8 (fun k hk h => absurd hk (Nat.not_lt.2 (HLO7.out k h)))); have hg := HR6.out.newIts (wx := w6) (w1 := w8) (v := v8) (its' := its.take i ++ its.drop (i + 1)) (Upd.refl _ _) (HU8.out.any _) (by rw [icells_append, HLL.out]; exact ownsRow_base hown8 (Nat.le_trans hB hsz6)) (fun k hk => .inr (hown8.lt k hk).1); have HO8 := Lib.hid hown8; have HH8 := Lib.hid hg.1; obtain ⟨x0, x1, x2, x3, x4, f0, f1, f2, f3, f4⟩ := cells5 hg.2; obtain ⟨ad8, c8, rfl⟩ := own_form hown8; clear hg hown8 hu8 hno8)
            go_meet
            exact ⟨_, HH8.out, fun k hk => (HO8.out.lt k hk).1, (HU6.out.trans HU8.out (fun _ _ h => h.elim)).setCell (a := ⟨b, 2, none⟩) (fun _ => .inl rfl) _, Blk.setOther (HX6.out.kept HU8.out id) (a := ⟨b, 2, none⟩) (show wq.heap.size ≠ b by omega) _, Blk.setOther (HZ6.out.kept HU8.out id) (a := ⟨b, 2, none⟩) (show w.heap.size ≠ b by omega) _⟩
        case rest =>
          obtain ⟨v8, hR8, hlo8, hU8, hX8, hZ8⟩ := hcut
          have hcof : cof (its.take i ++ its.drop (i + 1)) c2' = l2.length := by rw [cof_perC, HPC.out, upd_at]
          have HC := Lib.hid (count_any hR8 (by rw [HLL.out]; omega) c2')
          rw [hcof] at HC
          have hrf : rv = rv := rfl
          have hOwn : ∀ k, Of b (.slice (some ⟨gc, 0, none⟩) n ccv) v8 (.slice (some ⟨gr, 0, none⟩) N ccr) k → (Of b (.slice (some ⟨gc, 0, none⟩) n ccv) iv rv k ∨ w.heap.size < k) ∧ k ≠ wq.heap.size := fun k hk => by
            rcases hk with h | h | h | h
            · subst h; exact ⟨.inl (.inl rfl), by omega⟩
            · have h' : gc = k := by simpa [Value.ownBlock] using h
              subst h'; exact ⟨.inl (.inr (.inl rfl)), by omega⟩
            · have := hlo8 k h; exact ⟨.inr (by omega), by omega⟩
            · have h' : gr = k := by simpa [Value.ownBlock] using h
              subst h'; exact ⟨HG.out.own gr (.inr (.inr (.inr rfl))), by omega⟩
          have HOwn := Lib.hid hOwn
          have hzO : ¬ Of b (.slice (some ⟨gc, 0, none⟩) n ccv) v8 (.slice (some ⟨gr, 0, none⟩) N ccr) w.heap.size := fun h => by
            rcases (hOwn _ h).1 with h | h
            · exact absurd (HLTS.out _ h) (Nat.lt_irrefl _)
            · omega
          have HzO := Lib.hid hzO
          have HR8 := Lib.hid hR8
          have HU8 := Lib.hid hU8
          have HX8 := Lib.hid hX8
          have HZ8 := Lib.hid hZ8
          have hsm2 : sm = cr1 c2' - s2 := by rw [HCA.out]; exact HSM.out.symm
          have HSM2 := Lib.hid hsm2
          have hr2l : r2.length ≤ 64 := by have := HNN.out; simp at this; omega
          clear hR8 hU8 hX8 hZ8 hOwn hzO hcof hrf hlo8 hsm2 c0 c1 c2 c3 c4 z0 z1 z2 z3 z4
          go_wp2_with fail
          refine (HC.out).mono ?_
          rintro e w' ⟨rfl, rfl⟩
          cases l2 with
          | nil =>
            obtain ⟨c0, c1, c2, c3, c4, z0, z1, z2, z3, z4⟩ := cells5 HR8.out.blk
            obtain ⟨kc, yc⟩ := HR8.out.ccell hc2n
            go_upto_region 16 with fail
            obtain ⟨w9, hw9⟩ : ∃ w9, wc.setCell ⟨gc, c2', none⟩ (.int .u64 0) = w9 := ⟨_, rfl⟩
            have HRa := Lib.hid (HR8.out.setC hc2n 0)
            have HXa := Lib.hid (Blk.setOther HX8.out (a := ⟨gc, c2', none⟩) (show wq.heap.size ≠ gc by omega) (.int .u64 0))
            have HUa := Lib.hid (HU8.out.setCell (a := ⟨gc, c2', none⟩) (fun _ => .inr (.inl rfl)) (.int .u64 0))
            have HZa := Lib.hid (Blk.setOther HZ8.out (a := ⟨gc, c2', none⟩) (show w.heap.size ≠ gc by omega) (.int .u64 0))
            have hw9' : wc.setCell ⟨gc, c2', none⟩ (.int .u64 ((0 : Nat) : Int)) = w9 := hw9
            rw [hw9'] at HRa
            rw [hw9] at HXa HUa HZa ⊢
            clear c0 c1 c2 c3 c4 z0 z1 z2 z3 z4 kc yc hw9 hw9'
            go_wp2_with fail
            refine (rest_on HRa.out (Nat.le_trans hB HUa.out.size) hr2l).mono ?_
            rintro e wd ⟨rfl, iv9, rv9, hR9, hof9, hu9⟩
            have HZ9 := Lib.hid (HZa.out.kept hu9 HzO.out)
            have HX9 := Lib.hid (HXa.out.kept hu9 (fun h => (HOwn.out _ h).2 rfl))
            have HU9 := Lib.hid (HUa.out.trans hu9 (fun k hk h => by
              rcases (HOwn.out k h).1 with h | h
              · exact h
              · omega))
            have hof : ∀ k, Of b (.slice (some ⟨gc, 0, none⟩) n ccv) iv9 rv9 k → Of b (.slice (some ⟨gc, 0, none⟩) n ccv) iv rv k ∨ w.heap.size < k := fun k hk => by
              rcases hof9 k hk with h | h
              · exact (HOwn.out k h).1
              · have := HZa.out.lt; exact .inr (by omega)
            have hzo : ∀ k, Of b (.slice (some ⟨gc, 0, none⟩) n ccv) iv9 rv9 k → k ≠ w.heap.size := fun k hk e => by
              rcases hof k hk with h | h
              · have := HLTS.out k h; omega
              · omega
            have HR9 := Lib.hid hR9
            clear hR9 hu9 hof9
            obtain ⟨y0, y1, y2, f0, f1, f2⟩ := cells3 HZ9.out
            obtain ⟨x0, x1, x2, -, -, -⟩ := cells3 HX9.out
            go_wp2_with fail
            refine bodyPost_ret (v := .tuple #[.agg #[.int .i64 (c2' : Nat), .int .u64 (s2 : Nat), .int .i64 id2], .bool true]) (by simp [results, Try.results37, go_sem, y0, y1, y2]) rfl ⟨rfl, its.take i ++ its.drop (i + 1), HPC.out, by rw [HLL.out, HL.out]; omega, fun _ _ _ he => (List.mem_append.1 he).elim List.mem_of_mem_take List.mem_of_mem_drop, ?_⟩
            have e1 : left c2' r2 cr1 s2 true = ⟨r2, false, upd cr1 c2' 0⟩ := rfl
            have e2 : upd (upd cr1 c2' sm) c2' 0 = upd cr1 c2' 0 := by funext k; unfold upd; split <;> rfl
            rw [e1]
            have hr9 := HR9.out
            rw [e2] at hr9
            exact ⟨iv9, rv9, hr9.kept (S := fun k => k = w.heap.size) (st3 (S := fun k => k = w.heap.size) (g := w.heap.size) (Upd.refl _ _) rfl _ _ _) (fun k hk e => hzo k hk e) (by have := HR9.out.qb; omega), fun k hk => (hof k hk).imp id (fun h => Nat.le_of_lt h), by repeat (first | exact HU9.out | refine Upd.setNew ?_ (Nat.le_refl _) _)⟩
          | cons y l3 =>
            have d6 : ((((y :: l3).length : Nat) : Int) == 0) = false := by simp; omega
            have HR9 := HR8
            have HX9 := HX8
            have HZ9 := HZ8
            have HU9 := HU8
            have hof : ∀ k, Of b (.slice (some ⟨gc, 0, none⟩) n ccv) v8 (.slice (some ⟨gr, 0, none⟩) N ccr) k → Of b (.slice (some ⟨gc, 0, none⟩) n ccv) iv rv k ∨ w.heap.size < k := fun k hk => (HOwn.out k hk).1
            have hzo : ∀ k, Of b (.slice (some ⟨gc, 0, none⟩) n ccv) v8 (.slice (some ⟨gr, 0, none⟩) N ccr) k → k ≠ w.heap.size := fun k hk e => HzO.out (by rw [← e]; exact hk)
            obtain ⟨y0, y1, y2, f0, f1, f2⟩ := cells3 HZ9.out
            obtain ⟨x0, x1, x2, -, -, -⟩ := cells3 HX9.out
            go_wp2_with fail
            refine bodyPost_ret (v := .tuple #[.agg #[.int .i64 (c2' : Nat), .int .u64 (s2 : Nat), .int .i64 id2], .bool true]) (by simp [results, Try.results37, go_sem, y0, y1, y2]) rfl ⟨rfl, its.take i ++ its.drop (i + 1), HPC.out, by rw [HLL.out, HL.out]; omega, fun _ _ _ he => (List.mem_append.1 he).elim List.mem_of_mem_take List.mem_of_mem_drop, ?_⟩
            have e1 : left c2' r2 cr1 s2 false = ⟨c2' :: r2, true, upd cr1 c2' (cr1 c2' - s2)⟩ := rfl
            rw [e1]
            have hr9 := HR9.out
            rw [HSM2.out] at hr9
            exact ⟨v8, _, hr9.kept (S := fun k => k = w.heap.size) (st3 (S := fun k => k = w.heap.size) (g := w.heap.size) (Upd.refl _ _) rfl _ _ _) (fun k hk e => hzo k hk e) (by have := HR9.out.qb; omega), fun k hk => (hof k hk).imp id (fun h => Nat.le_of_lt h), by repeat (first | exact HU9.out | refine Upd.setNew ?_ (Nat.le_refl _) _)⟩
      · have d3 : decide ((s2 : Int) > ca) = true := decide_eq_true (by omega)
        have d4 : decide ((ca : Int) < s2) = true := decide_eq_true (by omega)
        have d5 : decide (ca < s2) = true := decide_eq_true (by omega)
        have hstN : ¬ hdOf (perC its) c2' ≤ startCr q st2 c2' c2' := by rw [HCR1.out, HCA.out, hdOf_cons HX2.out]; exact hst
        have HSTN := Lib.hid hstN
        have hr2l : r2.length ≤ 64 := by have := HNN.out; simp at this; omega
        clear hstN hst
        go_quiet (fail)
        have HR5 := Lib.hid (HR4.out.old ((Upd.refl Nowhere w4).drewN nq))
        go_wp2_with fail
        refine (rest_again HR5.out (by have := HU4.out.size; simp; omega) hr2l).mono ?_
        rintro e w6 ⟨rfl, iv6, rv6, hR6, hof6, hu6⟩
        go_wp2_with fail
        go_roundg f
        case measure => omega
        case rel =>
          have hon := HG.out.fit.on HROW.out HSTN.out
          have hms := meas_on HG.out.fit HROW.out HSTN.out
          have hsp := spin_on (q := q) (hd := hdOf (perC its)) (f := f) HROW.out HSTN.out
          have hu56 := hu6
          have hlz := HZ4.out.lt
          refine ⟨rfl, ⟨r2 ++ [c2'], false, startCr q st2 c2'⟩, iv6, rv6, ⟨by rw [HCR1.out]; exact hR6, hon, by simp, by have := HG.out.lt; omega, by rw [← hsp]; exact HG.out.sp, fun k hk => ?_, (HU4.out.drewN nq).trans hu6 (fun k hk h => ?_), (HZ4.out.drewN nq).kept hu6 (fun h => ?_)⟩⟩
          · rcases hof6 k hk with h | h
            · exact HG.out.own k h
            · exact .inr (by have h' : w4.heap.size ≤ k := h; omega)
          · rcases HG.out.own k h with h | h
            · exact h
            · omega
          · rcases HG.out.own _ h with h | h
            · exact absurd (HLTS.out _ h) (Nat.lt_irrefl _)
            · omega
end
end Go.Proofs.Ytopibbaopglggaa.Ref29
