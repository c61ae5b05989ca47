/- EgP, Eg6, one behind the other. -/
import Derived.Test.YtdddfmdcjjbegaaGreatMeEg5
namespace Go.Proofs.YtdddfmdcjjbegaaGreat.Egs
open Go.RowKit
open RingW (It)
open First (Cf)
theorem stp_le {T I X F N K L now wt bh : Nat} {D : Bool} (hN : N ≤ 18446744073709551615) (hK : K ≤ 18446744073709551615) (hL : L ≤ 18446744073709551615) :
 (Codel.stp T I X F N K L D now wt bh).1.2.1 ≤ 18446744073709551615 ∧ (Codel.stp T I X F N K L D now wt bh).1.2.2.1 ≤ 18446744073709551615 ∧ (Codel.stp T I X F N K L D now wt bh).1.2.2.2.1 ≤ 18446744073709551615 := by
 have ha : Codel.anew I N K L now ≤ 18446744073709551615 := by
  unfold Codel.anew
  split
  · omega
  · omega
 unfold Codel.stp
 split
 · rcases Codel.tm T I X F now wt bh with ⟨f, b⟩
   cases b with
   | false => exact ⟨hN, hK, hL⟩
   | true =>
     cases D with
     | false => exact ⟨Nat.min_le_right _ _, ha, ha⟩
     | true =>
       dsimp only
       split
       · exact ⟨hN, hK, hL⟩
       · exact ⟨Nat.min_le_right _ _, Nat.min_le_right _ _, hL⟩
 · exact ⟨hN, hK, hL⟩
/-- What stays as it is when a packet is asked whether it is let go. -/
theorem dropS_eq (cf : Cf) (s : Cs) (now at_ bh : Nat) (hN : s.cN ≤ 18446744073709551615) (hK : s.cK ≤ 18446744073709551615) (hL : s.cL ≤ 18446744073709551615) :
 ∃ f n k l d, (dropS cf s now at_ bh).2 = { s with cF := f, cN := n, cK := k, cL := l, cD := d } ∧ n ≤ 18446744073709551615 ∧ k ≤ 18446744073709551615 ∧ l ≤ 18446744073709551615 := by
 unfold dropS
 split
 · obtain ⟨h1, h2, h3⟩ := stp_le (T := cf.lt) (I := cf.li) (X := cf.lm) (F := s.cF) (D := s.cD) (now := now) (wt := now - at_) (bh := bh) hN hK hL
   exact ⟨_, _, _, _, _, rfl, h1, h2, h3⟩
 · exact ⟨_, _, _, _, _, rfl, hN, hK, hL⟩
theorem dropS_pol {cf : Cf} {s : Cs} {now at_ bh : Nat} (h : (dropS cf s now at_ bh).1 = true) : cf.policy = 2 := by
 unfold dropS at h
 by_cases hp : cf.policy = 2
 · exact hp
 · rw [if_neg hp] at h; cases h
/-- A class whose first packet was taken out. -/
def tkn (s : Cs) (x : It) (t : List (Nat × It)) : Cs := { s with l := t, bys := s.bys - x.2.2.1 }
theorem OkS.gone {cf : Cf} {s : Cs} {now c r : Nat} {x : It} {t : List (Nat × It)} (h : OkS cf s now c) (hl : s.l = (r, x) :: t) (hd : (dropS cf (tkn s x t) now x.2.2.2.1 s.bys).1 = true) :
 OkS cf { (dropS cf (tkn s x t) now x.2.2.2.1 s.bys).2 with drp := (dropS cf (tkn s x t) now x.2.2.2.1 s.bys).2.drp + 1 } now c := by
 have hp := dropS_pol hd
 obtain ⟨f, n, k, l, d, e, h1, h2, h3⟩ := dropS_eq cf (tkn s x t) now x.2.2.2.1 s.bys h.n1 h.n2 h.n3
 rw [e]
 have hlen := h.len
 have hby := h.by1
 have hle := h.le1
 rw [hl] at hlen hby hle
 rw [List.length_cons] at hlen hle
 rw [List.map_cons, List.sum_cons] at hby
 refine ⟨by show t.length ≤ _; omega, ?_, fun a ha => h.its a (by rw [hl]; exact List.mem_cons_of_mem _ ha), h.mn, h.ct, h1, h2, h3, fun h9 => (by rw [hp] at h9; cases h9), h.hv1, h.hv0, h.in1, ?_⟩
 · show s.bys - x.2.2.1 = (t.map (fun a => a.2.2.2.1)).sum
   rw [hby]
   exact Nat.add_sub_cancel_left _ _
 · show s.left + (s.drp + 1) + t.length = s.inn
   omega
theorem OkS.left_ {cf : Cf} {s : Cs} {now c r : Nat} {x : It} {t : List (Nat × It)} (h : OkS cf s now c) (hl : s.l = (r, x) :: t) (hv : cf.credit = true → 0 ≤ s.hv) :
 OkS cf (leaveS cf (dropS cf (tkn s x t) now x.2.2.2.1 s.bys).2 x.2.2.1) now c := by
 obtain ⟨f, n, k, l, d, e, h1, h2, h3⟩ := dropS_eq cf (tkn s x t) now x.2.2.2.1 s.bys h.n1 h.n2 h.n3
 rw [e]
 have hlen := h.len
 have hby := h.by1
 have hle := h.le1
 have hx := (h.its (r, x) (by rw [hl]; exact List.mem_cons_self ..)).2.1
 rw [hl] at hlen hby hle
 rw [List.length_cons] at hlen hle
 rw [List.map_cons, List.sum_cons] at hby
 refine ⟨by show t.length ≤ _; omega, ?_, fun a ha => h.its a (by rw [hl]; exact List.mem_cons_of_mem _ ha), h.mn, h.ct, h1, h2, h3, fun h9 => ?_, fun h9 => ?_, fun h9 => ?_, h.in1, ?_⟩
 · show s.bys - x.2.2.1 = (t.map (fun a => a.2.2.2.1)).sum
   rw [hby]
   exact Nat.add_sub_cancel_left _ _
 · show (if cf.policy = 3 then s.gw - 1 else s.gw) = t.length
   rw [if_pos h9, h.gw1 h9, hl, List.length_cons]
   omega
 · show Credit.okc cf.idle cf.send cf.high (if cf.credit = true then s.hv - cf.send * (x.2.2.1 : Int) else s.hv)
   rw [if_pos h9]
   exact Credit.sent_ok (h.hv1 h9) (hv h9) hx
 · show (if cf.credit = true then s.hv - cf.send * (x.2.2.1 : Int) else s.hv) = 0
   rw [if_neg (by rw [h9]; simp)]
   exact h.hv0 h9
 · show s.left + 1 + s.drp + t.length = s.inn
   omega
/-- What Next makes of one class: who leaves, and how it stands then. -/
def runC (pl : List (Nat × Nat)) (pace now i : Nat) (cf : Cf) : List (Nat × It) → Cs → Option It × Cs
 | [], s => (none, s)
 | (_, x) :: t, s =>
   if goesB pl pace now i cf s = true then
    if (dropS cf (tkn s x t) now x.2.2.2.1 s.bys).1 = true then runC pl pace now i cf t { (dropS cf (tkn s x t) now x.2.2.2.1 s.bys).2 with drp := (dropS cf (tkn s x t) now x.2.2.2.1 s.bys).2.drp + 1 }
    else (some x, leaveS cf (dropS cf (tkn s x t) now x.2.2.2.1 s.bys).2 x.2.2.1)
   else (none, s)
theorem dropS_l (cf : Cf) (s : Cs) (now at_ bh : Nat) : (dropS cf s now at_ bh).2.l = s.l := by
 unfold dropS; split <;> rfl
theorem goes_hv {pl : List (Nat × Nat)} {pace now i : Nat} {cf : Cf} {s : Cs} (h : goesB pl pace now i cf s = true) : cf.credit = true → 0 ≤ s.hv := by
 intro hc
 unfold goesB at h
 split at h
 · cases h
 · rw [hc] at h
   simp at h
   exact h.2
theorem goes_cons {pl : List (Nat × Nat)} {pace now i : Nat} {cf : Cf} {s : Cs} (h : goesB pl pace now i cf s = true) : ∃ r x t, s.l = (r, x) :: t := by
 unfold goesB at h
 split at h
 · cases h
 · rename_i r x t e; exact ⟨r, x, t, e⟩
theorem runC_stop {pl : List (Nat × Nat)} {pace now i : Nat} {cf : Cf} {s : Cs} (h : goesB pl pace now i cf s = false) : runC pl pace now i cf s.l s = (none, s) := by
 cases hl : s.l with
 | nil => rfl
 | cons a t => obtain ⟨r, x⟩ := a; unfold runC; rw [h, if_neg (by simp)]
theorem runC_gone {pl : List (Nat × Nat)} {pace now i r : Nat} {cf : Cf} {s : Cs} {x : It} {t : List (Nat × It)} (hl : s.l = (r, x) :: t) (h : goesB pl pace now i cf s = true) (hd : (dropS cf (tkn s x t) now x.2.2.2.1 s.bys).1 = true) :
 runC pl pace now i cf s.l s = runC pl pace now i cf { (dropS cf (tkn s x t) now x.2.2.2.1 s.bys).2 with drp := (dropS cf (tkn s x t) now x.2.2.2.1 s.bys).2.drp + 1 }.l { (dropS cf (tkn s x t) now x.2.2.2.1 s.bys).2 with drp := (dropS cf (tkn s x t) now x.2.2.2.1 s.bys).2.drp + 1 } := by
 rw [hl]
 conv => lhs; unfold runC
 rw [if_pos h, if_pos hd]
 show runC pl pace now i cf t _ = runC pl pace now i cf (dropS cf (tkn s x t) now x.2.2.2.1 s.bys).2.l _
 rw [dropS_l]
 rfl
theorem runC_left {pl : List (Nat × Nat)} {pace now i r : Nat} {cf : Cf} {s : Cs} {x : It} {t : List (Nat × It)} (hl : s.l = (r, x) :: t) (h : goesB pl pace now i cf s = true) (hd : (dropS cf (tkn s x t) now x.2.2.2.1 s.bys).1 = false) :
 runC pl pace now i cf s.l s = (some x, leaveS cf (dropS cf (tkn s x t) now x.2.2.2.1 s.bys).2 x.2.2.1) := by
 rw [hl]; unfold runC; rw [if_pos h, if_neg (by rw [hd]; simp)]
theorem runC_ok {pl : List (Nat × Nat)} {pace now i c : Nat} {cf : Cf} : ∀ (l : List (Nat × It)) (s : Cs), s.l = l → OkS cf s now c → OkS cf (runC pl pace now i cf l s).2 now c := by
 intro l
 induction l with
 | nil => intro s _ h; exact h
 | cons a t ih =>
   intro s hl h
   obtain ⟨r, x⟩ := a
   unfold runC
   split
   · rename_i hg
     split
     · rename_i hd
       exact ih _ (by show (dropS cf (tkn s x t) now x.2.2.2.1 s.bys).2.l = t; rw [dropS_l]; rfl) (h.gone hl hd)
     · exact h.left_ hl (goes_hv hg)
   · exact h
/-- What Next makes of all classes from the i-th on. -/
def runQ (pl : List (Nat × Nat)) (pace now : Nat) : Nat → List (Nat × Cf × Cs) → Option (Nat × It) × List (Nat × Cf × Cs)
 | _, [] => (none, [])
 | i, (k, cf, s) :: q => match (runC pl pace now i cf s.l s).1 with
   | some x => (some (i, x), (k, cf, (runC pl pace now i cf s.l s).2) :: q)
   | none => ((runQ pl pace now (i + 1) q).1, (k, cf, (runC pl pace now i cf s.l s).2) :: (runQ pl pace now (i + 1) q).2)
/-- Does something wait? -/
def waitsQ (q : List (Nat × Cf × Cs)) : Bool := q.any fun x => !x.2.2.l.isEmpty
/-- What Next tells: the class, the packet, the error; how the egress stands then. -/
def nextE (E : Eg) : (Nat × (Nat × Nat × Nat) × Nat) × Eg :=
 if E.now < E.busy then ((0, (0, 0, 0), 19), E)
 else match (runQ E.pl E.pace E.now 0 E.q).1 with
  | some (i, x) => ((i, (x.1, x.2.1, x.2.2.1), 0), { E with q := (runQ E.pl E.pace E.now 0 E.q).2, busy := bsy E x.2.2.1 })
  | none => ((0, (0, 0, 0), if waitsQ (runQ E.pl E.pace E.now 0 E.q).2 = true then 19 else 18), { E with q := (runQ E.pl E.pace E.now 0 E.q).2 })
theorem OkE.set {E : Eg} {c i k : Nat} {cf : Cf} {s s' : Cs} (h : OkE E c) (hx : E.q[i]? = some (k, cf, s)) (hs : OkS cf s' E.now c) : OkE { E with q := E.q.set i (k, cf, s') } c := by
 refine ⟨h.pl1, h.pl2, h.pc1, h.pc2, h.now, h.busy, by rw [List.length_set]; exact h.n1, by rw [List.length_set]; exact h.n2, fun x hm => ?_⟩
 rcases List.mem_or_eq_of_mem_set hm with h1 | rfl
 · exact h.q x h1
 · exact ⟨(h.q _ (List.mem_of_getElem? hx)).1, hs⟩
end Go.Proofs.YtdddfmdcjjbegaaGreat.Egs
namespace Go.Proofs.YtdddfmdcjjbegaaGreat.Egs
open Go.RowKit Go.Proofs BigFrame
open RingW (It KI zI ZI VI TE)
open First (Cf VC)
set_option maxHeartbeats 1000000
set_option maxRecDepth 1000000
/-- The first item; none where there is none. -/
def hdI : List (Nat × It) → It
 | [] => zeroI
 | a :: _ => a.2
section
variable {w w1 w' : World} {own : Nat → Prop} {e : Nat} {E : Eg} {i k : Nat} {cf : Cf} {s s' : Cs}
/-- A class's block, written. -/
theorem EgP.setK (h : EgP w own e E) (hx : E.q[i]? = some (k, cf, s)) (h0 : Upd Nowhere w w1) (hu : Upd (fun q => q = k) w1 w') (e1 : s'.l = s.l) (e2 : s'.gw = s.gw) (e3 : s'.win = s.win) (e4 : s'.inn = s.inn)
 (hB : ∀ v gv, Blk w k (KC cf s v gv) TK → Blk w' k (KC cf s' v gv) TK) : ∃ own', EgP w' own' e { E with q := E.q.set i (k, cf, s') } ∧ Fol w own w' own' := by
 obtain ⟨o, ⟨v, gv, hS⟩, _, _, _, hK⟩ := h.cls hx
 obtain ⟨oa, ob, ⟨hBk, _⟩, _⟩ := id hS
 obtain ⟨o', h1, h2⟩ := sep_blk hS h0 hu (hB v gv hBk)
 exact hK w' o' s' ⟨v, gv, by rw [e1, e2, e3, e4]; exact h1⟩ h2
theorem EgP.cells (h : EgP w own e E) (hx : E.q[i]? = some (k, cf, s)) : own k ∧ k ≠ e ∧ ∃ v gv, Blk w k (KC cf s v gv) TK := by
 obtain ⟨o, hC, hoe, ho, _, _⟩ := h.cls hx
 obtain ⟨hko, v, gv, o1, hB, _⟩ := hC.blk
 exact ⟨ho k hko, fun he => hoe (by rw [← he]; exact hko), v, gv, hB⟩
theorem EgP.lenOf (h : EgP w own e E) (hx : E.q[i]? = some (k, cf, s)) : ∃ T V fl, w.cell? ⟨k, 16, none⟩ = some (.iface T V) ∧ (∀ u, (method 363 T V "pacemaker/egress.len").run Tryz.prog u = .ok (fl, V) u) ∧ (∀ args u, (callFunc fl args).run Tryz.prog u = .ok (.enter fl args) u) ∧
 ∀ u, Upd Nowhere w u → Hid (Calls Tryz.prog fl #[V] u fun x w' => x = .returned (.int .i64 (s.l.length : Nat)) ∧ Upd Nowhere u w') := by
 obtain ⟨o, hC, hoe, ho, _, _⟩ := h.cls hx
 obtain ⟨_, v, gv, o1, hB, hR, _⟩ := hC.blk
 obtain ⟨T, V, fl, fh, fp, ft, M⟩ := hR.meth
 have c16 := kc16 hB
 rw [M.eq] at c16
 exact ⟨T, V, fl, c16, M.ml, M.el, fun u hu => Lib.hid (M.cl (hR.old hu))⟩
theorem EgP.headOf (h : EgP w own e E) (hx : E.q[i]? = some (k, cf, s)) : ∃ T V fh, w.cell? ⟨k, 16, none⟩ = some (.iface T V) ∧ (∀ u, (method 363 T V "pacemaker/egress.head").run Tryz.prog u = .ok (fh, V) u) ∧ (∀ args u, (callFunc fh args).run Tryz.prog u = .ok (.enter fh args) u) ∧
 ∀ u, Upd Nowhere w u → Hid (Calls Tryz.prog fh #[V] u fun x w' => x = .returned (.tuple #[VI (hdI s.l), .bool (!s.l.isEmpty)]) ∧ Upd Nowhere u w') := by
 obtain ⟨o, hC, hoe, ho, _, _⟩ := h.cls hx
 obtain ⟨_, v, gv, o1, hB, hR, _⟩ := hC.blk
 obtain ⟨T, V, fl, fh, fp, ft, M⟩ := hR.meth
 have c16 := kc16 hB
 rw [M.eq] at c16
 refine ⟨T, V, fh, c16, M.mh, M.eh, fun u hu => Lib.hid ?_⟩
 have hR' := hR.old hu
 cases hl : s.l with
 | nil => rw [hl] at hR'; exact M.ce hR'
 | cons a t => rw [hl] at hR'; exact M.ch (r := a.1) (x := a.2) hR'
/-- Its first packet, taken out. -/
theorem EgP.takeOf {r : Nat} {x : It} {t : List (Nat × It)} (h : EgP w own e E) (hx : E.q[i]? = some (k, cf, s)) (hl : s.l = (r, x) :: t) : ∃ T V ft, w.cell? ⟨k, 16, none⟩ = some (.iface T V) ∧ (∀ u, (method 363 T V "pacemaker/egress.take").run Tryz.prog u = .ok (ft, V) u) ∧ (∀ args u, (callFunc ft args).run Tryz.prog u = .ok (.enter ft args) u) ∧
 Calls Tryz.prog ft #[V] w fun y w' => y = .returned (VI x) ∧ ∃ own', EgP w' own' e { E with q := E.q.set i (k, cf, { s with l := t }) } ∧ Fol w own w' own' := by
 obtain ⟨o, hC, hoe, ho, _, hKE⟩ := h.cls hx
 obtain ⟨v, gv, o2, hB, hR, hk2, hs2, hko, hKK⟩ := hC.row
 obtain ⟨T, V, fl, fh, fp, ft, M⟩ := hR.meth
 have c16 := kc16 hB
 have ev := M.eq
 subst ev
 refine ⟨T, V, ft, c16, M.mt, M.et, ?_⟩
 rw [hl] at hR
 refine (M.ct hR).mono ?_
 rintro y w' ⟨rfl, o2', h1, h2⟩
 obtain ⟨o', h3, h4⟩ := hKK w' w' o2' { s with l := t } h1 h2 rfl rfl (Upd.refl _ _) (h2.blk hB hk2)
 obtain ⟨own', h5, h6⟩ := hKE w' o' _ h3 h4
 exact ⟨rfl, own', h5, h6⟩
end
end Go.Proofs.YtdddfmdcjjbegaaGreat.Egs

