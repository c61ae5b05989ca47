/- EgO, EgMade, EgPlain, EgLivesP, one behind the other. -/
import Derived.Test.YtdddfmdcjjbegaaGreatMeEg8
import Derived.Test.YtdddfmdcjjbegaaGreatMeEg9
namespace Go.Proofs.YtdddfmdcjjbegaaGreat.Egs
open Go.RowKit
open RingW (It)
open First (Cf)
open Cal (ins ins_len ins_mem)
theorem tickS_ok {cf : Cf} {s : Cs} {now c t : Nat} (h : OkS cf s now c) : OkS cf (tickS cf s t) (min (now + t) 18446744073709551615) c ∨ 18446744073709551615 < now := by
 by_cases hn : 18446744073709551615 < now
 · exact .inr hn
 · refine .inl ⟨h.len, h.by1, fun a ha => ?_, h.mn, h.ct, h.n1, h.n2, h.n3, h.gw1, fun hc => ?_, fun hc => ?_, h.in1, h.le1⟩
   · obtain ⟨a1, a2, a3, a4⟩ := h.its a ha
     exact ⟨a1, a2, by omega, a4⟩
   · show Credit.okc cf.idle cf.send cf.high (if cf.credit = true then _ else s.hv)
     rw [if_pos hc]
     exact Credit.tck_ok (h.hv1 hc)
   · show (if cf.credit = true then _ else s.hv) = 0
     rw [if_neg (by rw [hc]; simp)]
     exact h.hv0 hc
theorem tickE_ok {E : Eg} {c t : Nat} (h : OkE E c) : OkE (tickE E t) c := by
 refine ⟨h.pl1, h.pl2, h.pc1, h.pc2, Nat.min_le_right _ _, h.busy, ?_, ?_, fun x hx => ?_⟩
 · show 1 ≤ (tickQ t E.q).length
   unfold tickQ; rw [List.length_map]; exact h.n1
 · show (tickQ t E.q).length ≤ 8
   unfold tickQ; rw [List.length_map]; exact h.n2
 · obtain ⟨y, hy, rfl⟩ := List.mem_map.1 hx
   obtain ⟨h1, h2⟩ := h.q y hy
   refine ⟨h1, ?_⟩
   rcases tickS_ok (t := t) h2 with h3 | h3
   · exact h3
   · exact absurd h3 (Nat.not_lt.2 h.now)
theorem runQ_ok {pl : List (Nat × Nat)} {pace now c : Nat} : ∀ (q : List (Nat × Cf × Cs)) (i : Nat), (∀ x ∈ q, OkF x.2.1 ∧ OkS x.2.1 x.2.2 now c) → ∀ x ∈ (runQ pl pace now i q).2, OkF x.2.1 ∧ OkS x.2.1 x.2.2 now c := by
 intro q
 induction q with
 | nil => intro i _ x hx; cases hx
 | cons a q ih =>
   intro i h x hx
   obtain ⟨k, cf, s⟩ := a
   obtain ⟨h1, h2⟩ := h (k, cf, s) (List.mem_cons_self ..)
   have h3 := runC_ok (pl := pl) (pace := pace) (i := i) s.l s rfl h2
   have h4 : ∀ x ∈ q, OkF x.2.1 ∧ OkS x.2.1 x.2.2 now c := fun x hx => h x (List.mem_cons_of_mem _ hx)
   unfold runQ at hx
   split at hx
   · rcases List.mem_cons.1 hx with rfl | hx
     · exact ⟨h1, h3⟩
     · exact h4 x hx
   · rcases List.mem_cons.1 hx with rfl | hx
     · exact ⟨h1, h3⟩
     · exact ih (i + 1) h4 x hx
theorem runQ_len {pl : List (Nat × Nat)} {pace now : Nat} : ∀ (q : List (Nat × Cf × Cs)) (i : Nat), (runQ pl pace now i q).2.length = q.length := by
 intro q
 induction q with
 | nil => intro i; rfl
 | cons a q ih =>
   intro i
   obtain ⟨k, cf, s⟩ := a
   unfold runQ
   split
   · rfl
   · rw [List.length_cons, ih, List.length_cons]
theorem nextE_ok {E : Eg} {c : Nat} (h : OkE E c) : OkE (nextE E).2 c := by
 unfold nextE
 split
 · exact h
 · split
   · rename_i i x e
     exact ⟨h.pl1, h.pl2, h.pc1, h.pc2, h.now, Nat.min_le_right _ _, by show 1 ≤ (runQ _ _ _ _ _).2.length; rw [runQ_len]; exact h.n1, by show (runQ _ _ _ _ _).2.length ≤ 8; rw [runQ_len]; exact h.n2, runQ_ok E.q 0 h.q⟩
   · exact ⟨h.pl1, h.pl2, h.pc1, h.pc2, h.now, h.busy, by show 1 ≤ (runQ _ _ _ _ _).2.length; rw [runQ_len]; exact h.n1, by show (runQ _ _ _ _ _).2.length ≤ 8; rw [runQ_len]; exact h.n2, runQ_ok E.q 0 h.q⟩
theorem OkS.more {cf : Cf} {s : Cs} {now c c' : Nat} (h : OkS cf s now c) (hc : c ≤ c') : OkS cf s now c' := { h with in1 := Nat.le_trans h.in1 hc }
theorem OkE.more {E : Eg} {c c' : Nat} (h : OkE E c) (hc : c ≤ c') : OkE E c' := { h with q := fun x hx => ⟨(h.q x hx).1, (h.q x hx).2.more hc⟩ }
/-- Bytes of a list. -/
def byl (l : List (Nat × It)) : Nat := (l.map (fun a => a.2.2.2.1)).sum
theorem byl_app (l m : List (Nat × It)) : byl (l ++ m) = byl l + byl m := by unfold byl; rw [List.map_append, List.sum_append]
theorem byl_ins (r : Nat) (x : It) (l : List (Nat × It)) : byl (ins r x l) = x.2.2.1 + byl l := by
 induction l with
 | nil => simp [ins, byl]
 | cons a t ih =>
   unfold ins
   split
   · simp [byl]
   · have : byl (a :: ins r x t) = a.2.2.2.1 + byl (ins r x t) := by simp [byl]
     rw [this, ih]
     simp [byl]
     omega
/-- What a push makes of a list: either the new one is refused, and all is as it was, or it is in, in the place of the one that goes. -/
theorem psh_parts {wst : Bool} {room : Nat} {l : List (Nat × It)} {rank : Nat} {x : It} (hroom : wst = false → l.length < room) (hr : 1 ≤ room) (hx : ∀ a ∈ l, a.2.2.2.2.2 ≠ x.2.2.2.2) (hle : l.length ≤ room) :
 (psh wst room l rank x = (l, x, true, true)) ∨
 ((psh wst room l rank x).2.2.2 = false ∧ (psh wst room l rank x).2.2.1 = false ∧ (∀ a, a ∈ (psh wst room l rank x).1 ↔ a = (rank, x) ∨ a ∈ l) ∧ (psh wst room l rank x).1.length = l.length + 1 ∧ l.length < room ∧ byl (psh wst room l rank x).1 = byl l + x.2.2.1) ∨
 ((psh wst room l rank x).2.2.2 = false ∧ (psh wst room l rank x).2.2.1 = true ∧ ∃ r y t, l = t ++ [(r, y)] ∧ (psh wst room l rank x).2.1 = y ∧ (∀ a, a ∈ (psh wst room l rank x).1 ↔ a = (rank, x) ∨ a ∈ t) ∧ (psh wst room l rank x).1.length = l.length ∧ byl (psh wst room l rank x).1 = byl t + x.2.2.1) := by
 unfold psh
 cases wst with
 | false =>
   rw [if_neg (by simp)]
   refine .inr (.inl ⟨rfl, rfl, fun a => ?_, by simp, hroom rfl, by rw [byl_app]; simp [byl]⟩)
   simp only [List.mem_append, List.mem_singleton]
   constructor
   · rintro (h | h)
     · exact .inr h
     · exact .inl h
   · rintro (h | h)
     · exact .inr h
     · exact .inl h
 | true =>
   rw [if_pos rfl]
   by_cases hl : l.length < room
   · rw [if_pos hl]
     exact .inr (.inl ⟨rfl, rfl, fun a => ins_mem, ins_len _ _ _, hl, by rw [byl_ins]; omega⟩)
   · rw [if_neg hl]
     rcases List.eq_nil_or_concat l with rfl | ⟨t, ⟨r, y⟩, rfl⟩
     · simp at hl; omega
     · rw [List.concat_eq_append] at *
       rw [List.getLast?_append]
       simp only [List.getLast?_singleton, Option.some_or]
       by_cases hr2 : r ≤ rank
       · rw [if_pos hr2]; exact .inl rfl
       · rw [if_neg hr2, List.dropLast_concat]
         refine .inr (.inr ⟨?_, rfl, r, y, t, rfl, rfl, fun a => ins_mem, by rw [ins_len]; simp, by rw [byl_ins]; omega⟩)
         exact decide_eq_false (hx (r, y) (by simp))
theorem rs_le {A B P : Nat} {s : Int} {m c x : Nat} (hm : m ≤ 18446744073709551615) (hc : c ≤ 18446744073709551615) : (Red.rs A B P s m c x).1.1 ≤ 18446744073709551615 ∧ (Red.rs A B P s m c x).1.2 ≤ 18446744073709551615 := by
 unfold Red.rs
 split
 · split
   · exact ⟨Red.fol_le _ _ _, Nat.zero_le _⟩
   · split
     · exact ⟨Red.fol_le _ _ _, Nat.zero_le _⟩
     · split
       · exact ⟨Red.fol_le _ _ _, Nat.min_le_right _ _⟩
       · exact ⟨Red.fol_le _ _ _, Nat.zero_le _⟩
 · exact ⟨hm, hc⟩
/-- What may leaves. -/
theorem mayS_parts (cf : Cf) (s : Cs) (rank : Nat) (hm : s.mean ≤ 18446744073709551615) (hc : s.cnt ≤ 18446744073709551615) :
 ∃ m ct g wi, (mayS cf s rank).2 = { s with mean := m, cnt := ct, gw := g, win := wi } ∧ m ≤ 18446744073709551615 ∧ ct ≤ 18446744073709551615 ∧ (cf.policy = 3 → g = if (mayS cf s rank).1 = 0 then s.gw + 1 else s.gw) := by
 unfold mayS
 split
 · rename_i h4
   exact ⟨_, _, _, _, rfl, hm, hc, fun h => by rw [h4] at h; cases h⟩
 · split
   · refine ⟨s.mean, s.cnt, _, _, rfl, hm, hc, fun _ => ?_⟩
     dsimp only
     split <;> simp
   · rename_i h3
     split
     · exact ⟨_, _, _, _, rfl, hm, hc, fun h => absurd h h3⟩
     · split
       · obtain ⟨h1, h2⟩ := rs_le (A := cf.el) (B := cf.eh) (P := cf.em) (s := cf.es) (x := s.bys) hm hc
         exact ⟨_, _, s.gw, s.win, rfl, h1, h2, fun h => absurd h h3⟩
       · exact ⟨_, _, _, _, rfl, hm, hc, fun h => absurd h h3⟩
theorem pushS_ok {cf : Cf} {s : Cs} {now c rank : Nat} {p : Nat × Nat × Nat} (hf : OkF cf) (hs : OkS cf s now c) (h0 : p.1 < 4294967296) (h1 : p.2.1 < 4294967296) (h2 : 1 ≤ p.2.2) (h3 : p.2.2 ≤ 65535) : OkS cf (pushS cf s now rank p).2 now (c + 1) := by
 obtain ⟨m, ct, g, wi, he, hm, hct, hg⟩ := mayS_parts cf s rank hs.mn hs.ct
 have hby := hs.by1
 have hle := hs.le1
 have hin := hs.in1
 have hlen := hs.len
 have hr1 := hf.r1
 unfold pushS
 by_cases hy : (mayS cf s rank).1 = 0
 · rw [if_pos hy, he]
   rw [if_pos hy] at hg
   have hroom := mayS_room hs hy
   have hx : ∀ a ∈ s.l, a.2.2.2.2.2 ≠ s.inn := fun a ha => Nat.ne_of_lt (hs.its a ha).2.2.2.1
   rcases psh_parts (rank := rank) (x := (p.1, p.2.1, p.2.2, now, s.inn)) hroom (by omega) hx hlen with h | h | h
   · rw [h, if_pos rfl]
     refine ⟨hlen, hby, hs.its, hm, hct, hs.n1, hs.n2, hs.n3, fun h9 => ?_, hs.hv1, hs.hv0, by show s.inn ≤ _; omega, hle⟩
     exfalso
     have hw : wst cf = false := by unfold wst; exact decide_eq_false (by omega)
     rw [hw] at h
     unfold psh at h
     rw [if_neg (by simp)] at h
     simp at h
   · obtain ⟨e1, e2, e3, e4, e5, e6⟩ := h
     rw [if_neg (by rw [e1]; simp), e2]
     simp only [Bool.false_eq_true, if_false]
     refine ⟨by rw [e4]; omega, ?_, fun a ha => ?_, hm, hct, hs.n1, hs.n2, hs.n3, fun h9 => ?_, hs.hv1, hs.hv0, by show s.inn + 1 ≤ _; omega, ?_⟩
     · show s.bys + p.2.2 = byl _
       rw [e6, hby]; rfl
     · rcases (e3 a).1 ha with rfl | ha
       · exact ⟨h2, h3, Nat.le_refl _, Nat.lt_succ_self _, h0, h1⟩
       · obtain ⟨a1, a2, a3, a4, a5, a6⟩ := hs.its a ha
         exact ⟨a1, a2, a3, Nat.lt_succ_of_lt a4, a5, a6⟩
     · show g = _
       rw [hg h9, e4, hs.gw1 h9]
     · show s.left + s.drp + (psh _ _ _ _ _).1.length = s.inn + 1
       rw [e4]; omega
   · obtain ⟨e1, e2, r, y, t, e3, e4, e5, e6, e7⟩ := h
     rw [if_neg (by rw [e1]; simp), e2, e4]
     simp only [if_true]
     have hbt : byl s.l = byl t + y.2.2.1 := by rw [e3, byl_app]; simp [byl]
     have hby' : s.bys = byl s.l := hby
     have hpol : ¬ cf.policy = 3 := by
      intro h9
      have hw : wst cf = false := by unfold wst; exact decide_eq_false (by omega)
      rw [hw] at e2
      unfold psh at e2
      rw [if_neg (by simp)] at e2
      simp at e2
     refine ⟨by rw [e6]; exact hlen, ?_, fun a ha => ?_, hm, hct, hs.n1, hs.n2, hs.n3, fun h9 => absurd h9 hpol, hs.hv1, hs.hv0, by show s.inn + 1 ≤ _; omega, ?_⟩
     · show s.bys - y.2.2.1 + p.2.2 = byl _
       rw [e7, hby', hbt]
       show byl t + y.2.2.1 - y.2.2.1 + p.2.2 = byl t + p.2.2
       omega
     · rcases (e5 a).1 ha with rfl | ha
       · exact ⟨h2, h3, Nat.le_refl _, Nat.lt_succ_self _, h0, h1⟩
       · obtain ⟨a1, a2, a3, a4, a5, a6⟩ := hs.its a (by rw [e3]; exact List.mem_append_left _ ha)
         exact ⟨a1, a2, a3, Nat.lt_succ_of_lt a4, a5, a6⟩
     · show s.left + (s.drp + 1) + (psh _ _ _ _ _).1.length = s.inn + 1
       rw [e6]; omega
 · rw [if_neg hy, he]
   rw [if_neg hy] at hg
   exact ⟨hlen, hby, hs.its, hm, hct, hs.n1, hs.n2, hs.n3, fun h9 => (hg h9).trans (hs.gw1 h9), hs.hv1, hs.hv0, by show s.inn ≤ _; omega, hle⟩
theorem pushE_ok {E : Eg} {c rank : Nat} {i : Int} {p : Nat × Nat × Nat} (h : OkE E c) (h0 : p.1 < 4294967296) (h1 : p.2.1 < 4294967296) : OkE (pushE E i rank p).2 (c + 1) := by
 unfold pushE
 split
 · exact h.more (Nat.le_succ _)
 · split
   · exact h.more (Nat.le_succ _)
   · rename_i hp
     split
     · exact h.more (Nat.le_succ _)
     · rename_i k cf s hx
       obtain ⟨hf, hs⟩ := h.q _ (List.mem_of_getElem? hx)
       exact (h.more (Nat.le_succ c)).set hx (pushS_ok hf hs h0 h1 (by omega) (by omega))
end Go.Proofs.YtdddfmdcjjbegaaGreat.Egs
namespace Go.Proofs.YtdddfmdcjjbegaaGreat.Egs
open Go.RowKit Go.Proofs BigFrame
open RingW (It KI zI ZI VI TE)
open First (Cf VC TCl)
section
variable {w0 w : World} {e c : Nat} {E : Eg} {l : List Comp}
theorem m_eg (h : Made w0 w (egC e E :: l)) : ∃ o, EgP w o e E ∧ ∀ (w' : World) (o' : Nat → Prop) (E' : Eg), EgP w' o' e E' → Fol w o w' o' → Made w0 w' (egC e E' :: l) := by
 obtain ⟨o, h1, _, h3⟩ := Made.foc (egC e E) l [] h
 exact ⟨o, h1, fun w' o' E' hP hF => h3 w' o' (egC e E') hP hF⟩
theorem e_push (h : Made w0 w (egC e E :: l)) (hE : OkE E c) (hc : c < 1000000000) (i : Int) (rank p0 p1 p2 : Nat) :
 Calls Tryz.prog 13 #[.pointer (some ⟨e, 0, none⟩), .int .i64 i, .int .u64 rank, VP p0 p1 p2] w fun x w' => x = .returned (.int .i64 ((pushE E i rank (p0, p1, p2)).1 : Nat)) ∧ Made w0 w' (egC e (pushE E i rank (p0, p1, p2)).2 :: l) := by
 obtain ⟨o, h1, h2⟩ := m_eg h
 refine (push_any h1 hE hc i rank p0 p1 p2).mono ?_
 rintro x w' ⟨rfl, o', h3, h4⟩
 exact ⟨rfl, h2 _ _ _ h3 h4⟩
theorem e_next (h : Made w0 w (egC e E :: l)) (hE : OkE E c) (hc : c < 1000000000) :
 Calls Tryz.prog 15 #[.pointer (some ⟨e, 0, none⟩)] w fun x w' => x = .returned (.tuple #[.int .i64 ((nextE E).1.1 : Nat), VP (nextE E).1.2.1.1 (nextE E).1.2.1.2.1 (nextE E).1.2.1.2.2, .int .i64 ((nextE E).1.2.2 : Nat)]) ∧ Made w0 w' (egC e (nextE E).2 :: l) := by
 obtain ⟨o, h1, h2⟩ := m_eg h
 refine (next_any h1 hE hc).mono ?_
 rintro x w' ⟨rfl, o', h3, h4⟩
 exact ⟨rfl, h2 _ _ _ h3 h4⟩
theorem e_tick {t : Nat} (h : Made w0 w (egC e E :: l)) (hE : OkE E c) (ht : t ≤ 18446744073709551615) :
 Calls Tryz.prog 21 #[.pointer (some ⟨e, 0, none⟩), .int .u64 t] w fun x w' => x = .returned (.tuple #[]) ∧ Made w0 w' (egC e (tickE E t) :: l) := by
 obtain ⟨o, h1, h2⟩ := m_eg h
 refine (tick_any h1 hE ht).mono ?_
 rintro x w' ⟨rfl, o', h3, h4⟩
 exact ⟨rfl, h2 _ _ _ h3 h4⟩
theorem e_busy (h : Made w0 w (egC e E :: l)) (hE : OkE E c) : Calls Tryz.prog 20 #[.pointer (some ⟨e, 0, none⟩)] w fun x w' => x = .returned (.int .u64 (E.busy : Nat)) ∧ w = w' := by
 obtain ⟨o, h1, _⟩ := m_eg h
 exact busy_at h1 hE.pl1
end
end Go.Proofs.YtdddfmdcjjbegaaGreat.Egs
namespace Go.Proofs.YtdddfmdcjjbegaaGreat.Egs
open Go.RowKit
open RingW (It)
open First (Cf)
/-- What it makes of all of them, from the i-th on. -/
theorem runQ_spec {pl : List (Nat × Nat)} {pace now : Nat} : ∀ (q : List (Nat × Cf × Cs)) (i : Nat),
 ((runQ pl pace now i q).1 = none → ∀ m k cf s, q[m]? = some (k, cf, s) → (runC pl pace now (i + m) cf s.l s).1 = none ∧ (runQ pl pace now i q).2[m]? = some (k, cf, (runC pl pace now (i + m) cf s.l s).2)) ∧
 (∀ j x, (runQ pl pace now i q).1 = some (j, x) → ∃ p, j = i + p ∧ (∃ k cf s, q[p]? = some (k, cf, s) ∧ (runC pl pace now (i + p) cf s.l s).1 = some x ∧ (runQ pl pace now i q).2[p]? = some (k, cf, (runC pl pace now (i + p) cf s.l s).2)) ∧
  ∀ m k cf s, q[m]? = some (k, cf, s) → (m < p → (runC pl pace now (i + m) cf s.l s).1 = none ∧ (runQ pl pace now i q).2[m]? = some (k, cf, (runC pl pace now (i + m) cf s.l s).2)) ∧ (p < m → (runQ pl pace now i q).2[m]? = some (k, cf, s))) := by
 intro q
 induction q with
 | nil =>
   intro i
   exact ⟨fun _ m k cf s h => by simp at h, fun j x h => by cases h⟩
 | cons a q ih =>
   intro i
   obtain ⟨k0, cf0, st0⟩ := a
   obtain ⟨h1, h2⟩ := ih (i + 1)
   unfold runQ
   cases hr : (runC pl pace now i cf0 st0.l st0).1 with
   | some y =>
     dsimp only
     refine ⟨fun h => (by cases h), fun j x h => ?_⟩
     injection h with h
     injection h with e1 e2
     subst e1 e2
     refine ⟨0, rfl, ⟨k0, cf0, st0, rfl, hr, rfl⟩, fun m k cf s hm => ⟨fun h => by omega, fun h => ?_⟩⟩
     obtain ⟨m', rfl⟩ : ∃ m', m = m' + 1 := ⟨m - 1, by omega⟩
     simpa using hm
   | none =>
     dsimp only
     refine ⟨fun h m k cf s hm => ?_, fun j x h => ?_⟩
     · cases m with
       | zero =>
         simp only [List.getElem?_cons_zero] at hm
         cases hm
         exact ⟨hr, rfl⟩
       | succ m =>
         simp only [List.getElem?_cons_succ] at hm ⊢
         have := h1 h m k cf s hm
         rw [show i + (m + 1) = i + 1 + m by omega]
         exact this
     · obtain ⟨p, hp, ⟨k, cf, s, a1, a2, a3⟩, h4⟩ := h2 j x h
       refine ⟨p + 1, by omega, ⟨k, cf, s, by simpa using a1, by rw [show i + (p + 1) = i + 1 + p by omega]; exact a2, by rw [show i + (p + 1) = i + 1 + p by omega]; simpa using a3⟩, fun m k cf s hm => ?_⟩
       cases m with
       | zero =>
         simp only [List.getElem?_cons_zero] at hm
         cases hm
         exact ⟨fun _ => ⟨hr, rfl⟩, fun h => by omega⟩
       | succ m =>
         simp only [List.getElem?_cons_succ] at hm ⊢
         have := h4 m k cf s hm
         rw [show i + (m + 1) = i + 1 + m by omega]
         exact ⟨fun h => this.1 (by omega), fun h => this.2 (by omega)⟩
theorem nextE_same (E : Eg) : (nextE E).2.pl = E.pl ∧ (nextE E).2.pace = E.pace ∧ (nextE E).2.now = E.now ∧ (nextE E).2.q.length = E.q.length := by
 unfold nextE
 split
 · exact ⟨rfl, rfl, rfl, rfl⟩
 · split
   · exact ⟨rfl, rfl, rfl, runQ_len _ _⟩
   · exact ⟨rfl, rfl, rfl, runQ_len _ _⟩
/-- Something left. -/
theorem nextE_left {E : Eg} (h : (nextE E).1.2.2 = 0) : ∃ i x, (runQ E.pl E.pace E.now 0 E.q).1 = some (i, x) ∧ nextE E = ((i, (x.1, x.2.1, x.2.2.1), 0), { E with q := (runQ E.pl E.pace E.now 0 E.q).2, busy := bsy E x.2.2.1 }) ∧ E.busy ≤ E.now := by
 unfold nextE at h ⊢
 by_cases hb : E.now < E.busy
 · rw [if_pos hb] at h; simp at h
 · rw [if_neg hb] at h ⊢
   cases hr : (runQ E.pl E.pace E.now 0 E.q).1 with
   | some y =>
     obtain ⟨i, x⟩ := y
     exact ⟨i, x, rfl, rfl, by omega⟩
   | none =>
     rw [hr] at h
     dsimp only at h
     split at h <;> cases h
/-- Nothing left. -/
theorem nextE_none {E : Eg} (h : (nextE E).1.2.2 ≠ 0) (hb : ¬ E.now < E.busy) : (runQ E.pl E.pace E.now 0 E.q).1 = none ∧ (nextE E).2 = { E with q := (runQ E.pl E.pace E.now 0 E.q).2 } := by
 unfold nextE at h ⊢
 rw [if_neg hb] at h ⊢
 cases hr : (runQ E.pl E.pace E.now 0 E.q).1 with
 | some y => rw [hr] at h; simp at h
 | none => exact ⟨rfl, rfl⟩
theorem pushE_same (E : Eg) (i : Int) (rank : Nat) (p : Nat × Nat × Nat) : (pushE E i rank p).2.pl = E.pl ∧ (pushE E i rank p).2.pace = E.pace ∧ (pushE E i rank p).2.now = E.now ∧ (pushE E i rank p).2.busy = E.busy ∧ (pushE E i rank p).2.q.length = E.q.length := by
 unfold pushE
 split
 · exact ⟨rfl, rfl, rfl, rfl, rfl⟩
 · split
   · exact ⟨rfl, rfl, rfl, rfl, rfl⟩
   · split
     · exact ⟨rfl, rfl, rfl, rfl, rfl⟩
     · exact ⟨rfl, rfl, rfl, rfl, by rw [List.length_set]⟩
end Go.Proofs.YtdddfmdcjjbegaaGreat.Egs
namespace Go.Proofs.YtdddfmdcjjbegaaGreat.Egs
open Go.RowKit
open RingW (It)
open First (Cf)
/-- The example's class, and its plan. -/
def cfL : Cf := ⟨3, 0, false, 0, 0, 0, 0, 0, 0, 0, 0, 0, 0, 0, 0, 0⟩
def plL : List (Nat × Nat) := [(1, 9), (0, 1)]
def L0 (vc vp : Value) (k : Nat) : Eg := ⟨vc, vp, plL, 1, 0, 0, [(k, cfL, ⟨[], 0, 0, 0, 0, 0, 0, 0, false, 0, [], 0, 0, 0, 0⟩)]⟩
def L1 (vc vp : Value) (k : Nat) : Eg := (pushE (L0 vc vp k) 0 0 (0, 1, 9)).2
def L2 (vc vp : Value) (k : Nat) : Eg := (pushE (L1 vc vp k) 0 0 (0, 2, 10)).2
def L3 (vc vp : Value) (k : Nat) : Eg := (nextE (L2 vc vp k)).2
def L4 (vc vp : Value) (k : Nat) : Eg := tickE (L3 vc vp k) 10
section
variable {vc vp : Value} {k : Nat}
theorem l_push1 : (pushE (L0 vc vp k) 0 0 (0, 1, 9)).1 = 0 := by kernel_rfl
theorem l_push2 : (pushE (L1 vc vp k) 0 0 (0, 2, 10)).1 = 0 := by kernel_rfl
theorem l_next1 : (nextE (L2 vc vp k)).1 = (0, (0, 1, 9), 0) := by kernel_rfl
theorem l_next2 : (nextE (L4 vc vp k)).1 = (0, (0, 0, 0), 19) := by kernel_rfl
theorem l_busy : (nextE (L4 vc vp k)).2.busy = 9 := by kernel_rfl
end
end Go.Proofs.YtdddfmdcjjbegaaGreat.Egs

