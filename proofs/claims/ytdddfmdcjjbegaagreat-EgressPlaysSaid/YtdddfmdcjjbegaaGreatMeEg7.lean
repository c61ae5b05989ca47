/- Eg7, one behind the other. -/
import Derived.Test.YtdddfmdcjjbegaaGreatMeEg6
import Derived.Deep.LoopGhost
namespace Go.Proofs.YtdddfmdcjjbegaaGreat.Egs
open Go.RowKit Go.Proofs BigFrame
open RingW (It KI zI ZI VI TE)
open First (Cf VC)
set_option maxHeartbeats 40000000
set_option maxRecDepth 1000000
set_option linter.unusedSimpArgs false
abbrev zP : Array Value := #[.int .u32 0, .int .u32 0, .int .u64 0]
/-- What is true while Next goes through the classes. -/
structure Lp (w wr : World) (own own' : Nat → Prop) (e RB : Nat) (E : Eg) (c i : Nat) (Q : List (Nat × Cf × Cs)) (why : Nat) : Prop where
 eg : EgP wr own' e { E with q := Q }
 fo : Fol w own wr own'
 rb : Blk wr RB zP TP
 no : ¬ own' RB
 sz : w.heap.size ≤ RB
 ok : OkE { E with q := Q } c
 n : Q.length = E.q.length
 ru : runQ E.pl E.pace E.now 0 E.q = ((runQ E.pl E.pace E.now i (Q.drop i)).1, Q.take i ++ (runQ E.pl E.pace E.now i (Q.drop i)).2)
 wy : why = if waitsQ (Q.take i) = true then 19 else 18
theorem drop_at {q : List (Nat × Cf × Cs)} {i : Nat} {x : Nat × Cf × Cs} (h : q[i]? = some x) : q.drop i = x :: q.drop (i + 1) ∧ q.take (i + 1) = q.take i ++ [x] := by
 have hlt : i < q.length := by
  rcases Nat.lt_or_ge i q.length with h' | h'
  · exact h'
  · rw [List.getElem?_eq_none h'] at h; cases h
 have e : q[i] = x := by rw [List.getElem?_eq_getElem hlt] at h; exact Option.some.inj h
 refine ⟨by rw [← e, List.getElem_cons_drop], ?_⟩
 rw [List.take_add_one, h]; rfl
theorem set_parts {q : List (Nat × Cf × Cs)} {i : Nat} {x y : Nat × Cf × Cs} (h : q[i]? = some x) : (q.set i y)[i]? = some y ∧ (q.set i y).take i = q.take i ∧ (q.set i y).drop (i + 1) = q.drop (i + 1) := by
 have hlt : i < q.length := by
  rcases Nat.lt_or_ge i q.length with h' | h'
  · exact h'
  · rw [List.getElem?_eq_none h'] at h; cases h
 refine ⟨by rw [List.getElem?_set, if_pos rfl, if_pos hlt], ?_, ?_⟩
 · rw [List.take_set_of_le (by omega)]
 · rw [List.drop_set_of_lt (by omega)]
theorem set_id {q : List (Nat × Cf × Cs)} {i : Nat} {x : Nat × Cf × Cs} (h : q[i]? = some x) : q.set i x = q := by
 apply List.ext_getElem?
 intro j
 rw [List.getElem?_set]
 split
 · rename_i e
   subst e
   have hlt : i < q.length := by
    rcases Nat.lt_or_ge i q.length with h' | h'
    · exact h'
    · rw [List.getElem?_eq_none h'] at h; cases h
   rw [if_pos hlt, h]
 · rfl
theorem waitsQ_app (a : List (Nat × Cf × Cs)) (x : Nat × Cf × Cs) : waitsQ (a ++ [x]) = (waitsQ a || !x.2.2.l.isEmpty) := by unfold waitsQ; simp
section
variable {w wr wr' : World} {own own' own'' : Nat → Prop} {e RB c i k why : Nat} {E : Eg} {Q : List (Nat × Cf × Cs)} {cf : Cf} {s s' : Cs}
theorem Lp.old (L : Lp w wr own own' e RB E c i Q why) (hu : Upd Nowhere wr wr') : Lp w wr' own own' e RB E c i Q why :=
 { L with eg := (egC e _).kp L.eg hu (fun _ _ h => h), fo := L.fo.old hu, rb := Blk.kept L.rb hu id }
/-- The next class, the one before being done. -/
theorem Lp.next (L : Lp w wr own own' e RB E c i Q why) (hx : Q[i]? = some (k, cf, s)) (hr : runC E.pl E.pace E.now i cf s.l s = (none, s')) (h1 : EgP wr' own'' e { E with q := Q.set i (k, cf, s') }) (h2 : Fol w own wr' own'') (h3 : Blk wr' RB zP TP) (h4 : ¬ own'' RB) (h5 : OkE { E with q := Q.set i (k, cf, s') } c) :
 Lp w wr' own own'' e RB E c (i + 1) (Q.set i (k, cf, s')) (if s'.l.isEmpty = true then why else 19) := by
 obtain ⟨a1, a2, a3⟩ := set_parts (y := (k, cf, s')) hx
 obtain ⟨b1, b2⟩ := drop_at hx
 obtain ⟨_, b4⟩ := drop_at a1
 refine ⟨h1, h2, h3, h4, L.sz, h5, by rw [List.length_set]; exact L.n, ?_, ?_⟩
 · rw [L.ru, b1, a3, b4, a2]
   conv => lhs; unfold runQ
   rw [hr]
   dsimp only
   rw [List.append_assoc]
   rfl
 · rw [b4, a2, waitsQ_app]
   cases hl : s'.l with
   | nil => rw [L.wy]; simp
   | cons a t => simp
theorem Lp.left_ (L : Lp w wr own own' e RB E c i Q why) (hx : Q[i]? = some (k, cf, s)) {x : It} (hr : runC E.pl E.pace E.now i cf s.l s = (some x, s')) : runQ E.pl E.pace E.now 0 E.q = (some (i, x), Q.set i (k, cf, s')) := by
 obtain ⟨a1, a2, a3⟩ := set_parts (y := (k, cf, s')) hx
 obtain ⟨b1, _⟩ := drop_at hx
 obtain ⟨b3, _⟩ := drop_at a1
 rw [L.ru, b1]
 conv => lhs; unfold runQ
 rw [hr]
 dsimp only
 congr 1
 have : Q.set i (k, cf, s') = (Q.set i (k, cf, s')).take i ++ (Q.set i (k, cf, s')).drop i := (List.take_append_drop _ _).symm
 rw [this, a2, b3, a3]
theorem Lp.end_ (L : Lp w wr own own' e RB E c i Q why) (hi : i = E.q.length) : runQ E.pl E.pace E.now 0 E.q = (none, Q) ∧ why = if waitsQ Q = true then 19 else 18 := by
 have hd : Q.drop i = [] := List.drop_eq_nil_of_le (by rw [L.n]; omega)
 have ht : Q.take i = Q := List.take_of_length_le (by rw [L.n]; omega)
 have := L.ru
 rw [hd, ht] at this
 refine ⟨by rw [this]; unfold runQ; simp, ?_⟩
 rw [← ht]; exact L.wy
end
theorem next_busy {w : World} {own : Nat → Prop} {e : Nat} {E : Eg} {c : Nat} (h : EgP w own e E) (hE : OkE E c) (hb : E.now < E.busy) :
 Calls Tryz.prog 15 #[.pointer (some ⟨e, 0, none⟩)] w fun x w' => x = .returned (.tuple #[.int .i64 0, VP 0 0 0, .int .i64 19]) ∧ Upd Nowhere w w' := by
 obtain ⟨_, ac, cc, ap, cp, hB, -⟩ := h.blk hE.pl1
 have hU : Upd Nowhere w (w.alloc (.cells zP TP)) := (Upd.refl _ _).alloc _
 have hR : Blk (w.alloc (.cells zP TP)) w.heap.size zP TP := Blk.new _ _ _
 have c0 : (w.alloc (.cells zP TP)).cell? ⟨e, 0, none⟩ = some (.slice ac E.q.length cc) := cell_old hU (hB.cellAt rfl)
 have c3 : (w.alloc (.cells zP TP)).cell? ⟨e, 3, none⟩ = some (.int .u64 (E.now : Nat)) := cell_old hU (hB.cellAt rfl)
 have c4 : (w.alloc (.cells zP TP)).cell? ⟨e, 4, none⟩ = some (.int .u64 (E.busy : Nat)) := cell_old hU (hB.cellAt rfl)
 have hn1 := hE.n1
 obtain ⟨n, hn⟩ : ∃ n, E.q.length = n := ⟨_, rfl⟩
 rw [hn] at c0 hn1
 have d0 : ((n : Int) == 0) = false := by simp; omega
 have d1 : decide (E.now < E.busy) = true := decide_eq_true hb
 clear h hE hb hB hn hn1
 go_enter Tryz.func15, Tryz.ntmps15
 go_upto_region 1 with fail
 generalize w.alloc (.cells zP TP) = w1 at *
 obtain ⟨r0, r1, r2, z0, z1, z2⟩ := cells3 hR
 clear hR
 go_wp2_with fail
 go_quiet (fail)
 go_wp2_with fail
 exact bodyPost_ret (v := .tuple #[.int .i64 0, VP 0 0 0, .int .i64 19]) (by simp [results, Tryz.results15, go_sem, r0, r1, r2]) rfl ⟨rfl, (by repeat (first | with_reducible exact hU | with_reducible refine Upd.drewN ?_ _ | with_reducible refine Upd.drew ?_ | with_reducible refine Upd.setNew ?_ (Nat.le_refl _) _))⟩
theorem next_run {w : World} {own : Nat → Prop} {e : Nat} {E : Eg} {c : Nat} (h : EgP w own e E) (hE : OkE E c) (hc : c < 1000000000) (hb : ¬ E.now < E.busy) :
 Calls Tryz.prog 15 #[.pointer (some ⟨e, 0, none⟩)] w fun x w' => x = .returned (.tuple #[.int .i64 ((nextE E).1.1 : Nat), VP (nextE E).1.2.1.1 (nextE E).1.2.1.2.1 (nextE E).1.2.1.2.2, .int .i64 ((nextE E).1.2.2 : Nat)]) ∧ ∃ own', EgP w' own' e (nextE E).2 ∧ Fol w own w' own' := by
 obtain ⟨_, ac, cc, ap, cp, hB, hKX, -, hvc, -⟩ := h.blk hE.pl1
 have hU : Upd Nowhere w (w.alloc (.cells zP TP)) := (Upd.refl _ _).alloc _
 have hR : Blk (w.alloc (.cells zP TP)) w.heap.size zP TP := Blk.new _ _ _
 have c0 : (w.alloc (.cells zP TP)).cell? ⟨e, 0, none⟩ = some (.slice ac E.q.length cc) := cell_old hU (hB.cellAt rfl)
 have c3 : (w.alloc (.cells zP TP)).cell? ⟨e, 3, none⟩ = some (.int .u64 (E.now : Nat)) := cell_old hU (hB.cellAt rfl)
 have c4 : (w.alloc (.cells zP TP)).cell? ⟨e, 4, none⟩ = some (.int .u64 (E.busy : Nat)) := cell_old hU (hB.cellAt rfl)
 have hn1 := hE.n1
 have hn2 := hE.n2
 obtain ⟨g, hg⟩ : ∃ g, ac = some ⟨g, 0, none⟩ := by
  obtain ⟨g, h1, _⟩ := hKX 0 E.q[0] (List.getElem?_eq_getElem (by omega))
  exact ⟨g, h1⟩
 subst hg
 obtain ⟨RB, hRB⟩ : ∃ RB, w.heap.size = RB := ⟨_, rfl⟩
 have hno : ¬ own RB := fun h9 => by have := (egC e E).lt h h9; omega
 have HL0 : Hid (Lp w (w.alloc (.cells zP TP)) own own e RB E c 0 E.q 18) := Lib.hid ⟨(egC e E).kp h hU (fun _ _ h => h), (Fol.refl _ _).old hU, by rw [← hRB]; exact hR, hno, by omega, hE, rfl, by simp, by rw [List.take_zero]; rfl⟩
 obtain ⟨n, hn⟩ : ∃ n, E.q.length = n := ⟨_, rfl⟩
 rw [hn] at c0 hn1 hn2 hvc
 have d0 : ((n : Int) == 0) = false := by simp; omega
 have d1 : decide (E.now < E.busy) = false := decide_eq_false hb
 have hNXs : ∀ i x Q, runQ E.pl E.pace E.now 0 E.q = (some (i, x), Q) → nextE E = ((i, (x.1, x.2.1, x.2.2.1), 0), { E with q := Q, busy := bsy E x.2.2.1 }) := fun i x Q h => by unfold nextE; rw [if_neg hb, h]
 have hNXn : ∀ Q, runQ E.pl E.pace E.now 0 E.q = (none, Q) → nextE E = ((0, (0, 0, 0), if waitsQ Q = true then 19 else 18), { E with q := Q }) := fun Q h => by unfold nextE; rw [if_neg hb, h]
 obtain ⟨NX, hNXe⟩ : ∃ NX, nextE E = NX := ⟨_, rfl⟩
 rw [hNXe] at hNXs hNXn ⊢
 have HNXS := Lib.hid hNXs
 have HNXN := Lib.hid hNXn
 have HN := Lib.hid hn
 have HVC := Lib.hid hvc
 have HRB := Lib.hid hRB
 have HCC := Lib.hid hc
 clear h hE hb hB hR hKX hno hU hn hvc hNXs hNXn hNXe hRB hc
 go_enter Tryz.func15, Tryz.ntmps15
 go_upto_region 1 with fail
 generalize w.alloc (.cells zP TP) = w0 at *
 try simp only [HRB.out]
 go_wp2_with fail
 go_quiet (fail)
 go_wp2_with fail
 go_loopg [5, 6, 7, 8, 9, 38] (n + 1) (fun gk v5 _ _ _ _ v38 wr => ∃ (i : Nat) (Q : List (Nat × Cf × Cs)) (why : Nat) (own' : Nat → Prop), n - i < gk ∧ i ≤ n ∧ v5 = .int .i64 why ∧ v38 = .int .i64 i ∧ Lp w wr own own' e RB E c i Q why)
 case atStart => exact ⟨0, E.q, 18, own, by omega, Nat.zero_le _, rfl, rfl, HL0.out.old ((Upd.refl _ _).drewN nq)⟩
 case round =>
  obtain ⟨i, Q, why, own1, hgk, hin, rfl, rfl, hL⟩ := hrel
  obtain ⟨wB, rfl⟩ : ∃ x, x = wr := ⟨_, rfl⟩
  have HGK := Lib.hid hgk
  have HL := Lib.hid hL
  clear hgk hL HL0
  rcases Nat.lt_or_ge i n with hlt | hge
  · have hlen : Q.length = n := HL.out.n.trans HN.out
    obtain ⟨⟨k, cf, s⟩, hx⟩ : ∃ x, Q[i]? = some x := ⟨Q[i]'(by omega), by simp⟩
    obtain ⟨_, ac2, cc2, _, _, hB2, hK2, _, hv2, _⟩ := HL.out.eg.blk HL.out.ok.pl1
    obtain ⟨g2, hg2, hcell⟩ := hK2 i _ hx
    dsimp only at hv2 hcell
    rw [HVC.out] at hv2
    injection hv2 with ev1 ev2 ev3
    rw [hg2] at ev1
    injection ev1 with ev1
    injection ev1 with ev1
    subst ev1
    have hI : (i : Int) < n := by omega
    have dI : decide ((i : Int) < n) = true := decide_eq_true hI
    have HX := Lib.hid hx
    clear hB2 hK2 hg2 ev2 ev3 hx hlen
    go_wp2_with fail
    go_loopg [2, 4, 8, 9] (s.l.length + 1) (fun hk _ _ _ _ wr => ∃ (s' : Cs) (own' : Nat → Prop), s'.l.length < hk ∧ EgP wr own' e { E with q := Q.set i (k, cf, s') } ∧ Fol w own wr own' ∧ Blk wr RB zP TP ∧ ¬ own' RB ∧ OkE { E with q := Q.set i (k, cf, s') } c ∧ runC E.pl E.pace E.now i cf s'.l s' = runC E.pl E.pace E.now i cf s.l s)
    case atStart =>
     have e9 := set_id HX.out
     exact ⟨s, own1, Nat.lt_succ_self _, by rw [e9]; exact HL.out.eg, HL.out.fo, HL.out.rb, HL.out.no, by rw [e9]; exact HL.out.ok, rfl⟩
    case round =>
     obtain ⟨s1, own2, hhk, h1, h2, h3, h4, h5, h6⟩ := hrel
     obtain ⟨wC, rfl⟩ : ∃ x, x = wr := ⟨_, rfl⟩
     have hxs := (set_parts (y := (k, cf, s1)) HX.out).1
     obtain ⟨hf1, hs1⟩ : OkF cf ∧ OkS cf s1 E.now c := h5.q _ (List.mem_of_getElem? hxs)
     have HG := Lib.hid (goes_any h1 h5 hxs hs1.hv1 (fun a ha => (hs1.its a ha).2.1))
     dsimp only at HG
     have HHK := Lib.hid hhk
     have H1 := Lib.hid h1
     have H2 := Lib.hid h2
     have H3 := Lib.hid h3
     have H4 := Lib.hid h4
     have H5 := Lib.hid h5
     have H6 := Lib.hid h6
     have HXS := Lib.hid hxs
     have HF1 := Lib.hid hf1
     have HS1 := Lib.hid hs1
     have HTK := fun (w : World) (h : EgP w own2 e { E with q := Q.set i (k, cf, s1) }) => Lib.hid (And.intro (EgP.lenOf h hxs) (fun (r : Nat) (x : It) (t : List (Nat × It)) (hl : s1.l = (r, x) :: t) => EgP.takeOf h hxs hl))
     clear hhk h1 h2 h3 h4 h5 h6 hxs hf1 hs1
     obtain ⟨G, hG⟩ : ∃ G, goesB E.pl E.pace E.now i cf s1 = G := ⟨_, rfl⟩
     rw [hG] at HG
     have HGE := Lib.hid hG
     clear hG
     cases G with
     | false =>
       go_wp2_with fail
       refine (HG.out).mono ?_
       rintro x w2 ⟨rfl, u2⟩
       have h7 := (egC e _).kp H1.out u2 (fun _ _ h => h)
       obtain ⟨⟨T, V, fl, c16, hml, hel, HLN⟩, _⟩ := (HTK _ h7).out
       have HU2 := Lib.hid u2
       obtain ⟨m, hm⟩ : ∃ m, s1.l.length = m := ⟨_, rfl⟩
       rw [hm] at HLN
       have hst := runC_stop HGE.out
       have HR := Lib.hid (H6.out.symm.trans hst)
       have HM := Lib.hid hm
       clear h7 u2 hst hm HTK
       rcases Nat.eq_zero_or_pos m with hm0 | hm0
       · have dm : decide ((m : Int) > 0) = false := by simp; omega
         have dm2 : decide ((0 : Int) < (m : Int)) = false := by simp; omega
         have dm3 : decide (0 < m) = false := by simp; omega
         go_wp2_with fail
         refine ((HLN _ (Upd.refl _ _)).out).mono ?_
         rintro x w3 ⟨rfl, u3⟩
         have HU3 := Lib.hid (HU2.out.trans u3 (fun _ _ h => h))
         clear u3 dm2
         go_wp2_with fail
         go_roundg (n - i)
         case rel =>
          have L2 := HL.out.next HX.out HR.out ((egC e _).kp H1.out HU3.out (fun _ _ h => h)) (H2.out.old HU3.out) (Blk.kept H3.out HU3.out id) H4.out H5.out
          have he : s1.l.isEmpty = true := by have := HM.out; rw [hm0] at this; rw [List.length_eq_zero_iff.1 this]; rfl
          rw [if_pos he] at L2
          exact ⟨i + 1, Q.set i (k, cf, s1), why, own2, by omega, by omega, rfl, rfl, L2⟩
         case measure => have := HGK.out; omega
       · have dm : decide ((m : Int) > 0) = true := by simp; omega
         have dm2 : decide ((0 : Int) < (m : Int)) = true := by simp; omega
         have dm3 : decide (0 < m) = true := by simp; omega
         go_wp2_with fail
         refine ((HLN _ (Upd.refl _ _)).out).mono ?_
         rintro x w3 ⟨rfl, u3⟩
         have HU3 := Lib.hid (HU2.out.trans u3 (fun _ _ h => h))
         clear u3
         go_wp2_with fail
         go_roundg (n - i)
         case rel =>
          have L2 := HL.out.next HX.out HR.out ((egC e _).kp H1.out HU3.out (fun _ _ h => h)) (H2.out.old HU3.out) (Blk.kept H3.out HU3.out id) H4.out H5.out
          have he : ¬ s1.l.isEmpty = true := by
           intro h9
           have h8 := List.isEmpty_iff.1 h9
           have := HM.out
           rw [h8] at this
           simp at this
           omega
          rw [if_neg he] at L2
          exact ⟨i + 1, Q.set i (k, cf, s1), 19, own2, by omega, by omega, rfl, rfl, L2⟩
         case measure => have := HGK.out; omega
     | true =>
       obtain ⟨r, x, t, hl⟩ := goes_cons HGE.out
       have hit := HS1.out.its (r, x) (by rw [hl]; exact List.mem_cons_self ..)
       dsimp only at hit
       have HGO := Lib.hid (fun hd => HS1.out.gone (r := r) (x := x) (t := t) hl hd)
       have HLE := Lib.hid (HS1.out.left_ (r := r) (x := x) (t := t) hl (goes_hv HGE.out))
       have HRG := Lib.hid (fun hd => runC_gone (i := i) hl HGE.out hd)
       have HRL := Lib.hid (fun hd => runC_left (i := i) hl HGE.out hd)
       have hby : x.2.2.1 ≤ s1.bys := by
        rw [HS1.out.by1]
        exact sum_mem (a := (r, x)) (by rw [hl]; exact List.mem_cons_self ..)
       have hgw9 : cf.policy = 3 → 1 ≤ s1.gw := fun h => by rw [HS1.out.gw1 h, hl]; simp
       go_wp2_with fail
       refine (HG.out).mono ?_
       rintro y w2 ⟨rfl, u2⟩
       have h7 := (egC e _).kp H1.out u2 (fun _ _ h => h)
       obtain ⟨_, hTK⟩ := (HTK _ h7).out
       obtain ⟨T, V, ft, c16, hmt, het, HT⟩ := hTK r x t hl
       have H2' := Lib.hid (H2.out.old u2)
       have H3' := Lib.hid (Blk.kept H3.out u2 id)
       have HHT := Lib.hid HT
       have HBY2 := Lib.hid (HS1.out.by2 HF1.out)
       obtain ⟨x0, x1, x2, x3, x4⟩ := x
       dsimp only at hit hby HGO HLE HRG HRL
       have HIT := Lib.hid hit
       have HBY := Lib.hid hby
       have HGW := Lib.hid hgw9
       have HLL := Lib.hid hl
       clear h7 hTK HTK HG H1 H2 H3 u2 HT hit hby hgw9 hl
       go_wp2_with fail
       refine (HHT.out).mono ?_
       rintro y w3 ⟨rfl, own3, h8, f8⟩
       have F8 := Lib.hid (H2'.out.trans f8)
       have hRB3 := f8.blk H3'.out H4.out
       have hno3 := f8.off H4.out (Blk.lt H3'.out)
       have hx3 := (set_parts (y := (k, cf, { s1 with l := t })) HXS.out).1
       rw [List.set_set] at hx3
       have h8' : EgP w3 own3 e { E with q := Q.set i (k, cf, { s1 with l := t }) } := by have h9 := h8; rw [List.set_set] at h9; exact h9
       obtain ⟨hok3, hke, v, gv, hBk⟩ := h8'.cells hx3
       have hlt3 : ∀ q, own3 q → q < w3.heap.size := fun q hq => (egC e _).lt h8' hq
       go_upto_region 11 with fail
       have hA : Upd Nowhere w3 (w3.alloc (.cells #[.int .u32 x0, .int .u32 x1, .int .u64 x2, .int .u64 x3, .int .i64 x4] TE)) := (Upd.refl _ _).alloc _
       have hXB : Blk (w3.alloc (.cells #[.int .u32 x0, .int .u32 x1, .int .u64 x2, .int .u64 x3, .int .i64 x4] TE)) w3.heap.size #[.int .u32 x0, .int .u32 x1, .int .u64 x2, .int .u64 x3, .int .i64 x4] TE := Blk.new _ _ _
       have h9 := (egC e _).kp h8' hA (fun _ _ h => h)
       have hBk4 := Blk.kept hBk hA id
       obtain ⟨XB, hXBe⟩ : ∃ XB, w3.heap.size = XB := ⟨_, rfl⟩
       have HNX : Hid (¬ own3 XB) := Lib.hid (fun h => by have := hlt3 _ h; omega)
       have hkx : k ≠ XB := fun h => HNX.out (by rw [← h]; exact hok3)
       have HN3 := Lib.hid hno3
       have HR4 := Lib.hid (Blk.kept hRB3 hA id)
       have F9 := Lib.hid (F8.out.old hA)
       rw [hXBe] at hXB
       have HXB := Lib.hid hXB
       have H9 := Lib.hid h9
       have HBK4 := Lib.hid hBk4
       have HX3 := Lib.hid hx3
       have hkx2 : ¬ XB = k := fun h => hkx h.symm
       clear h8 h8' f8 hRB3 hno3 hx3 hBk hlt3 hA h9 hBk4 F8 hXB H2' H3' HHT c16 hmt het hok3
       generalize w3.alloc (.cells #[.int .u32 x0, .int .u32 x1, .int .u64 x2, .int .u64 x3, .int .i64 x4] TE) = w4 at *
       try simp only [hXBe]
       clear hXBe
       obtain ⟨b1, hb1⟩ : ∃ b1, s1.bys - x2 = b1 := ⟨_, rfl⟩
       have esub : IntKind.u64.wrap ((s1.bys : Int) - x2) = (b1 : Int) := by rw [IntKind.wrap_u64]; have := HBY.out; have := HBY2.out; omega
       have HB1 := Lib.hid hb1
       have c17 : w4.cell? ⟨k, 17, none⟩ = some (.int .u64 (s1.bys : Nat)) := kc17 HBK4.out
       have z17 := Blk.free HBK4.out 17
       obtain ⟨q0, q1, q2, q3, q4, -⟩ := cells5 HXB.out
       clear hb1
       go_upto_region 12 with fail
       refine wp_region_tail 10 (by kernel_rfl) (by kernel_rfl) ?_
       simp only [List.take_succ_cons, List.take_zero, List.drop_succ_cons, List.drop_zero]
       repeat (go_big_quiet_step (fail))
       refine wpQuiet_nil ?_
       rintro _ ⟨nq2, rfl⟩
       go_upto_region 13 with fail
       refine Stage.out ?_
       go_upto_region 13 with fail
       obtain ⟨own5, h10, f10⟩ := EgP.setK (w := w4.drewN nq2) (w1 := w4.drewN nq2) (w' := (w4.drewN nq2).setCell ⟨k, 17, none⟩ (.int .u64 (b1 : Nat))) (s' := tkn s1 (x0, x1, x2, x3, x4) t) ((egC e _).kp H9.out ((Upd.refl _ _).drewN nq2) (fun _ _ h => h)) HX3.out (Upd.refl _ _) ((Upd.refl _ _).setOne 17 _) rfl rfl rfl rfl (fun v gv hB => by rw [← HB1.out]; simpa [tkn] using hB.set 17 (.int .u64 ((s1.bys - x2 : Nat) : Int)))
       have hu5 : Upd Nowhere w4 (w4.drewN nq2) := (Upd.refl _ _).drewN nq2
       have hXB5 := f10.blk (Blk.kept HXB.out hu5 id) HNX.out
       have hRB5 := f10.blk (Blk.kept HR4.out hu5 id) HN3.out
       have hno5 := f10.off HN3.out (Blk.lt (Blk.kept HR4.out hu5 id))
       have hnx5 := f10.off HNX.out (Blk.lt (Blk.kept HXB.out hu5 id))
       have F10 := Lib.hid ((F9.out.old hu5).trans f10)
       have h10' : EgP ((w4.drewN nq2).setCell ⟨k, 17, none⟩ (.int .u64 (b1 : Nat))) own5 e { E with q := Q.set i (k, cf, tkn s1 (x0, x1, x2, x3, x4) t) } := by have h9 := h10; simp only [List.set_set] at h9; exact h9
       clear c17 z17 q0 q1 q2 q3 q4 h10 f10 hu5 H9 HXB HR4 F9 HBK4 HNX HN3
       generalize (w4.drewN nq2).setCell ⟨k, 17, none⟩ (.int .u64 (b1 : Nat)) = w5 at *
       have hx5 := (set_parts (y := (k, cf, tkn s1 (x0, x1, x2, x3, x4) t)) HX.out).1
       obtain ⟨o5, hC5, hoe5, ho5, _, hKK5⟩ := h10'.cls hx5
       obtain ⟨_, _, _, _, _, hB5, -⟩ := h10'.blk HL.out.ok.pl1
       have c3 : w5.cell? ⟨e, 3, none⟩ = some (.int .u64 (E.now : Nat)) := hB5.cellAt rfl
       have HDR := fun u (hu : Upd Nowhere w5 u) => Lib.hid (drops_any ((clsC k cf _).kp hC5 hu (fun _ _ h => h)) (x0, x1, x2, x3, x4) E.now s1.bys HL.out.ok.now HIT.out.2.2.1 HS1.out.n1 HS1.out.n2 HS1.out.n3)
       dsimp only at HDR
       obtain ⟨⟨dg, d2⟩, hdd⟩ : ∃ d, dropS cf (tkn s1 (x0, x1, x2, x3, x4) t) E.now x3 s1.bys = d := ⟨_, rfl⟩
       rw [hdd] at HDR HGO HLE HRG HRL
       dsimp only at HDR HGO HLE HRG HRL
       obtain ⟨f9, n9, k9, l9, dd9, hde, _, _, _⟩ := dropS_eq cf (tkn s1 (x0, x1, x2, x3, x4) t) E.now x3 s1.bys HS1.out.n1 HS1.out.n2 HS1.out.n3
       rw [hdd] at hde
       dsimp only at hde
       have HXB5 := Lib.hid hXB5
       have HRB5 := Lib.hid hRB5
       have HNO5 := Lib.hid hno5
       have HNX5 := Lib.hid hnx5
       have HKK5 := Lib.hid hKK5
       have HDE := Lib.hid hde
       have HDN : Hid (d2.drp + 1 < 9223372036854775808) := Lib.hid (by rw [hde]; show s1.drp + 1 < _; have := HS1.out.le1; have := HS1.out.in1; have := HCC.out; omega)
       have HO5 := Lib.hid ho5
       obtain ⟨q0, q1, q2, q3, q4, -⟩ := cells5 hXB5
       clear hXB5 hRB5 hno5 hnx5 hKK5 hB5 hC5 h10' hx5 hdd hde ho5 hoe5
       refine wp_region_tail 7 (by kernel_rfl) (by kernel_rfl) ?_
       simp only [List.take_succ_cons, List.take_zero, List.drop_succ_cons, List.drop_zero]
       repeat (go_big_quiet_step (fail))
       refine wpQuiet_nil ?_
       rintro _ ⟨nq3, rfl⟩
       go_wp2_with fail
       refine ((HDR _ ((Upd.refl _ _).drewN nq3)).out).mono ?_
       rintro y w6 ⟨rfl, o6, h11, f11⟩
       have f12 : Fol w5 o5 w6 o6 := ((Fol.refl w5 o5).drewN nq3).trans f11
       obtain ⟨own6, h13, f13⟩ := HKK5.out w6 o6 d2 h11 f12
       have h13' : EgP w6 own6 e { E with q := Q.set i (k, cf, d2) } := by have h9 := h13; simp only [List.set_set] at h9; exact h9
       have HXB6 := Lib.hid (f13.blk HXB5.out HNX5.out)
       have HRB6 := Lib.hid (f13.blk HRB5.out HNO5.out)
       have HNO6 := Lib.hid (f13.off HNO5.out (Blk.lt HRB5.out))
       have HNX6 := Lib.hid (f13.off HNX5.out (Blk.lt HXB5.out))
       have F13 := Lib.hid (F10.out.trans f13)
       have H13 := Lib.hid h13'
       clear h11 f11 f12 h13 f13 h13' HDR HKK5 HXB5 HRB5 HNO5 HNX5 F10 q0 q1 q2 q3 q4 c3
       have hx6 := (set_parts (y := (k, cf, d2)) HX.out).1
       have HX6 := Lib.hid hx6
       obtain ⟨_, _, v6, gv6, hB6⟩ := H13.out.cells hx6
       have HB6 := Lib.hid hB6
       clear hB6 hx6
       go_wp2_with fail
       refine Stage.out ?_
       cases dg with
       | true =>
         obtain ⟨dn, hdn⟩ : ∃ dn, d2.drp + 1 = dn := ⟨_, rfl⟩
         have e1 : IntKind.i64.wrap ((d2.drp : Int) + 1) = (dn : Int) := by rw [IntKind.wrap_i64]; have := HDN.out; omega
         have c32 := kc32 HB6.out
         have z32 := Blk.free HB6.out 32
         have HDNE := Lib.hid hdn
         clear hdn
         go_wp2_with fail
         go_roundg (s1.l.length)
         case rel =>
          obtain ⟨own7, h14, f14⟩ := EgP.setK (w := w6) (w1 := w6) (w' := w6.setCell ⟨k, 32, none⟩ (.int .i64 (dn : Nat))) (s' := { d2 with drp := dn }) H13.out HX6.out (Upd.refl _ _) ((Upd.refl _ _).setOne 32 _) rfl rfl rfl rfl (fun v gv hB => by simpa using hB.set 32 (.int .i64 (dn : Nat)))
          have h15 : EgP (w6.setCell ⟨k, 32, none⟩ (.int .i64 (dn : Nat))) own7 e { E with q := Q.set i (k, cf, { d2 with drp := d2.drp + 1 }) } := by have h9 := h14; simp only [List.set_set] at h9; rw [HDNE.out]; exact h9
          have hl9 : d2.l = t := by rw [HDE.out]; rfl
          refine ⟨{ d2 with drp := d2.drp + 1 }, own7, ?_, h15, F13.out.trans f14, f14.blk HRB6.out HNO6.out, f14.off HNO6.out (Blk.lt HRB6.out), HL.out.ok.set HX.out (HGO.out trivial), (HRG.out trivial).symm.trans H6.out⟩
          show d2.l.length < _
          rw [hl9, HLL.out]
          simp
         case measure => have := HHK.out; omega
       | false =>
         have hhv : d2.hv = s1.hv := by rw [HDE.out]; rfl
         have hgw2 : d2.gw = s1.gw := by rw [HDE.out]; rfl
         have hlf2 : d2.left = s1.left := by rw [HDE.out]; rfl
         have HLV := Lib.hid (leave_any (c := c) H13.out HL.out.ok.pl1 HL.out.ok.pc2 HL.out.ok.now HCC.out HX6.out (fun h => by rw [hhv]; exact ⟨HS1.out.hv1 h, goes_hv HGE.out h⟩) (fun h => by rw [hgw2]; exact HGW.out h) (by rw [hlf2]; have := HS1.out.le1; have := HS1.out.in1; omega) x0 x1 x2 HIT.out.2.1)
         have hrun := HL.out.left_ HX.out (H6.out.symm.trans (HRL.out rfl))
         have hnx := HNXS.out _ _ _ hrun
         have HNXX := Lib.hid hnx
         obtain ⟨q0, q1, q2, q3, q4, -⟩ := cells5 HXB6.out
         clear hhv hgw2 hlf2 hrun hnx
         go_wp2_with fail
         refine (HLV.out).mono ?_
         rintro y w7 ⟨rfl, own7, h14, f14⟩
         have h15 : EgP w7 own7 e { E with q := Q.set i (k, cf, leaveS cf d2 x2), busy := bsy E x2 } := by have h9 := h14; simp only [List.set_set] at h9; exact h9
         have hXB7 := f14.blk HXB6.out HNX6.out
         have hRB7 := f14.blk HRB6.out HNO6.out
         have HNO7 := Lib.hid (f14.off HNO6.out (Blk.lt HRB6.out))
         have F14 := Lib.hid (F13.out.trans f14)
         have H15 := Lib.hid h15
         have hne : ¬ RB = XB := fun h => by
          have h1 := HXB6.out
          have h2 := HRB6.out
          rw [h] at h2
          unfold Blk at h1 h2
          rw [h1] at h2
          injection h2 with h2
          injection h2 with h2 _
          have := congrArg Array.size h2
          simp at this
         clear h14 f14 h15 HLV q0 q1 q2 q3 q4
         obtain ⟨q0, q1, q2, q3, q4, -⟩ := cells5 hXB7
         obtain ⟨r0, r1, r2, z0, z1, z2⟩ := cells3 hRB7
         clear hXB7 hRB7
         have HFIN : Hid (∀ W, Upd (fun q => q = RB) w7 W → EgP W own7 e NX.2 ∧ Fol w own W own7) := Lib.hid (fun W hW => by rw [HNXX.out]; exact ⟨(egC e _).kp H15.out hW (fun q hq h9 => HNO7.out (by rw [← h9]; exact hq)), F14.out.ret hW HL.out.sz⟩)
         go_wp2_with fail
         go_region
         all_goals
          go_wp2_with fail
          refine bodyPost_ret (v := .tuple #[.int .i64 i, VP x0 x1 x2, .int .i64 0]) (by simp [results, Tryz.results15, go_sem, r0, r1, r2]) rfl ⟨by rw [HNXX.out]; rfl, own7, HFIN.out _ ?_⟩
          (repeat (first | with_reducible exact Upd.refl _ _ | with_reducible refine Upd.drewN ?_ _ | with_reducible refine Upd.drew ?_ | with_reducible refine Upd.setOne ?_ _ _))
  · obtain rfl : i = n := by omega
    have dI : decide ((i : Int) < i) = false := by simp
    obtain ⟨r0, r1, r2, z0, z1, z2⟩ := cells3 HL.out.rb
    go_wp2_with fail
    obtain ⟨e1, e2⟩ := HL.out.end_ HN.out.symm
    have hx := HNXN.out Q e1
    have hu : Upd (fun q => q = RB) wB (((wB.setCell ⟨RB, 0, none⟩ (.int .u32 0)).setCell ⟨RB, 1, none⟩ (.int .u32 0)).setCell ⟨RB, 2, none⟩ (.int .u64 0)) := (((Upd.refl _ _).setOne 0 _).setOne 1 _).setOne 2 _
    exact bodyPost_ret (v := .tuple #[.int .i64 0, VP 0 0 0, .int .i64 why]) (by simp [results, Tryz.results15, go_sem, r0, r1, r2]) rfl ⟨by rw [hx, e2]; rfl, own1, by rw [hx]; exact (egC e _).kp HL.out.eg hu (fun q hq h9 => HL.out.no (by rw [← h9]; exact hq)), HL.out.fo.ret hu HL.out.sz⟩
theorem next_any {w : World} {own : Nat → Prop} {e : Nat} {E : Eg} {c : Nat} (h : EgP w own e E) (hE : OkE E c) (hc : c < 1000000000) :
 Calls Tryz.prog 15 #[.pointer (some ⟨e, 0, none⟩)] w fun x w' => x = .returned (.tuple #[.int .i64 ((nextE E).1.1 : Nat), VP (nextE E).1.2.1.1 (nextE E).1.2.1.2.1 (nextE E).1.2.1.2.2, .int .i64 ((nextE E).1.2.2 : Nat)]) ∧ ∃ own', EgP w' own' e (nextE E).2 ∧ Fol w own w' own' := by
 by_cases hb : E.now < E.busy
 · have e1 : nextE E = ((0, (0, 0, 0), 19), E) := by unfold nextE; rw [if_pos hb]
   rw [e1]
   exact (next_busy h hE hb).mono fun x w' ⟨e1, e2⟩ => ⟨e1, own, (egC e E).kp h e2 (fun _ _ h => h), (Fol.refl _ _).old e2⟩
 · exact next_run h hE hc hb
end Go.Proofs.YtdddfmdcjjbegaaGreat.Egs

