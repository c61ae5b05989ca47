/- Br0, one behind the other. -/
import Derived.Test.YtpgpjjkeginbbaaGreatDoorMtTf
import Derived.Test.YtpgpjjkeginbbaaGreatDoorMtPl
namespace Go.Proofs.YtpgpjjkeginbbaaGreatDoor.Br
open Tree (TS FlatSh chi up put1 got push pop flat_push flat_pop put1_q put1_vi put1_tg put1_H put1_m mad up_at up_off)
open HeapE (El)
open Cal (ins Rises ins_mem ins_len ins_rises ins_behind)
open Sh (Cg Fl St Op Bk mayIn rankOf enq deq re0 refuse plc mx)
/-- The flows of these costs. -/
def wfl (ws : List Nat) : List Fl := (List.range ws.length).map (fun i => ⟨i, ws.getD i 0, 0, 0, mx⟩)
/-- The configuration that refuses nothing. -/
def wide (ws : List Nat) (back : Int) : Cg := ⟨1, back, 2, 1, 4096, 1099511627776, 16, 65535, 1, mx, wfl ws⟩
theorem wfl_len (ws : List Nat) : (wfl ws).length = ws.length := by unfold wfl; simp
theorem wfl_at {ws : List Nat} {i : Nat} (h : i < ws.length) : (wfl ws)[i]? = some ⟨i, ws.getD i 0, 0, 0, mx⟩ := by
 unfold wfl
 rw [List.getElem?_map, List.getElem?_range h]
 rfl
theorem plc_wide {ws : List Nat} {i : Nat} (h : i < ws.length) : plc (wfl ws) i = some i := by
 unfold plc
 rw [List.findIdx?_eq_some_iff_getElem]
 refine ⟨by rw [wfl_len]; exact h, ?_, fun j hj => ?_⟩
 · have := wfl_at h
   rw [List.getElem?_eq_getElem (by rw [wfl_len]; exact h)] at this
   rw [Option.some.inj this]; simp
 · have hjl : j < ws.length := by omega
   have := wfl_at hjl
   rw [List.getElem?_eq_getElem (by rw [wfl_len]; exact hjl)] at this
   rw [Option.some.inj this]
   simp; omega
theorem flow_wide {ws : List Nat} {back : Int} {i : Nat} (h : i < ws.length) : Sh.flow? (wide ws back) i = some ⟨i, ws.getD i 0, 0, 0, mx⟩ := by
 unfold Sh.flow?
 show (wfl ws).find? (fun f => f.id == i) = _
 have h1 := plc_wide h
 unfold plc at h1
 rw [List.findIdx?_eq_some_iff_getElem] at h1
 obtain ⟨hl, h2, h3⟩ := h1
 rw [List.find?_eq_some_iff_getElem]
 refine ⟨by simp, i, hl, ?_, fun j hj => by simpa using h3 j hj⟩
 have := wfl_at h
 rw [List.getElem?_eq_getElem hl] at this
 exact Option.some.inj this
/-- What waits of a flow. -/
def ofF (i : Nat) (M : List (Nat × Sh.Pk)) : List (Nat × Sh.Pk) := M.filter (fun a => a.2.1 == i)
/-- The shaper and the tree have the same; k steps are done. -/
structure Br (ws : List Nat) (k : Nat) (st : St) (s : TS) (M : List (Nat × Sh.Pk)) : Prop where
 bk : st.bk = .srt M
 q0 : s.q 0 = M.map (fun a => (a.1, chi (a.2.1 + 1)))
 q1 : ∀ i, i < ws.length → s.q (i + 1) = (ofF i M).map (fun a => (0, ((0 : Int), a.2)))
 vi : s.vi 0 = st.virt
 tg : ∀ i, i < ws.length → s.tg (i + 1) = st.tags.getD i 0
 hH : s.H = []
 m : s.m = M.length
 rs : Rises M
 fl : ∀ a ∈ M, a.2.1 < ws.length
 le : ∀ a ∈ M, a.1 ≤ st.tags.getD a.2.1 0
 tok : mx ≤ st.tok + 65535 * k
 by_ : st.by_ ≤ 65535 * k
 pk : M.length ≤ k
theorem ins_ofF_same {r : Nat} {p : Sh.Pk} : ∀ {M : List (Nat × Sh.Pk)}, Rises M → (∀ a ∈ M, a.2.1 = p.1 → a.1 ≤ r) → ofF p.1 (ins r p M) = ofF p.1 M ++ [(r, p)]
 | [], _, _ => by unfold ins ofF; simp
 | a :: t, hr, h => by
   have hr' := List.pairwise_cons.1 hr
   unfold ins
   by_cases hlt : r < a.1
   · rw [if_pos hlt]
     have e0 : ofF p.1 (a :: t) = [] := by
      unfold ofF
      rw [List.filter_eq_nil_iff]
      intro b hb he
      have he2 : b.2.1 = p.1 := by simpa using he
      have h1 := h b hb he2
      rcases List.mem_cons.1 hb with rfl | hb
      · omega
      · have := hr'.1 b hb; omega
     rw [e0]
     unfold ofF at e0 ⊢
     rw [List.filter_cons, if_pos (by simp), e0]; rfl
   · rw [if_neg hlt]
     have ih := ins_ofF_same (M := t) hr'.2 (fun b hb => h b (List.mem_cons_of_mem _ hb))
     unfold ofF at ih ⊢
     rw [List.filter_cons, List.filter_cons]
     split
     · rw [ih]; rfl
     · exact ih
theorem ins_ofF_other {r i : Nat} {p : Sh.Pk} (hi : p.1 ≠ i) : ∀ (M : List (Nat × Sh.Pk)), ofF i (ins r p M) = ofF i M
 | [] => by unfold ins ofF; simp [hi]
 | a :: t => by
   unfold ins
   split
   · unfold ofF
     rw [List.filter_cons, if_neg (by simpa using hi)]
   · have ih := ins_ofF_other (r := r) hi t
     unfold ofF at ih ⊢
     rw [List.filter_cons, List.filter_cons, ih]
theorem ins_map {r : Nat} {p : Sh.Pk} : ∀ (M : List (Nat × Sh.Pk)), (ins r p M).map (fun a => (a.1, chi (a.2.1 + 1))) = ins r (chi (p.1 + 1)) (M.map (fun a => (a.1, chi (a.2.1 + 1))))
 | [] => rfl
 | a :: t => by
   have ih := ins_map (r := r) (p := p) t
   show List.map _ (if r < a.1 then (r, p) :: a :: t else a :: ins r p t) = (if r < a.1 then (r, chi (p.1 + 1)) :: (a.1, chi (a.2.1 + 1)) :: t.map (fun a => (a.1, chi (a.2.1 + 1))) else (a.1, chi (a.2.1 + 1)) :: ins r (chi (p.1 + 1)) (t.map (fun a => (a.1, chi (a.2.1 + 1)))))
   by_cases h : r < a.1
   · rw [if_pos h, if_pos h]; rfl
   · rw [if_neg h, if_neg h, List.map_cons, ih]
section
variable {ws : List Nat} {back : Int} {k : Nat} {st : St} {s : TS} {M : List (Nat × Sh.Pk)} {sh : Tree.Sh}
theorem may_wide (h : Br ws k st s M) (hg : Sh.Good (wide ws back) st) (hk : k ≤ 150) {i : Nat} (hi : i < ws.length) (n : Nat) : mayIn (wide ws back) st i n = if n = 0 ∨ 65535 < n then 12 else 0 := by
 unfold mayIn
 show (if n = 0 ∨ 65535 < n then 12 else _) = _
 by_cases h0 : n = 0 ∨ 65535 < n
 · rw [if_pos h0, if_pos h0]
 · rw [if_neg h0, if_neg h0]
   have ho := hg.own i
   rw [flow_wide hi] at ho
   have h1 := Sh.bytF_le i st.bk.flat
   have h2 := hg.by1
   have h3 := h.by_
   have h4 := hg.pk
   have h5 : st.bk.flat.length = M.length := by rw [h.bk]; rfl
   have h6 := h.pk
   rw [ho]
   show (if (4096 : Int) ≤ (st.pk : Int) then 14 else if 1099511627776 - st.by_ < n then 15 else if mx < Sh.bytF i st.bk.flat ∨ mx - Sh.bytF i st.bk.flat < n then 16 else if Sh.shl (1099511627776 - st.by_) 16 ≤ Sh.bytF i st.bk.flat then 17 else 0) = 0
   have h7 : Sh.bytF i st.bk.flat ≤ 9830250 := by omega
   rw [if_neg (by omega), if_neg (by omega), if_neg (by unfold mx; omega), if_neg (by
    unfold Sh.shl
    rw [if_neg (by omega)]
    show ¬ min ((1099511627776 - st.by_) * 2 ^ 16) mx ≤ _
    unfold mx
    omega)]
theorem rank_wide {i : Nat} (hi : i < ws.length) (n : Nat) : rankOf (wide ws back) st i n = (max st.virt (st.tags.getD i 0), st.tags.set i (min (max st.virt (st.tags.getD i 0) + min (ws.getD i 0 * n) mx) mx)) := by
 unfold rankOf
 show (match plc (wfl ws) i with | none => _ | some at_ => _) = _
 rw [plc_wide hi]
 have e : (wfl ws).getD i ⟨0, 0, 0, 0, 0⟩ = ⟨i, ws.getD i 0, 0, 0, mx⟩ := by rw [List.getD_eq_getElem?_getD, wfl_at hi]; rfl
 show (if (1 : Int) = 1 then (max st.virt (st.tags.getD i 0), st.tags.set i (min (max st.virt (st.tags.getD i 0) + min (((wfl ws).getD i ⟨0, 0, 0, 0, 0⟩).cost * n) mx) mx)) else _) = _
 rw [if_pos rfl, e]
theorem br_push (hf : FlatSh sh 3 ws 0) (h : Br ws k st s M) (hg : Sh.Good (wide ws back) st) (hk : k < 150) {i : Nat} (hi : i < ws.length) (id n : Nat) :
 (enq (wide ws back) st ⟨1, i, id, n, 0⟩).1.code = (push sh 4096 s 0 ((i + 1 : Nat) : Int) (i, id, n)).1 ∧ ∃ M', Br ws (k + 1) (enq (wide ws back) st ⟨1, i, id, n, 0⟩).2 (push sh 4096 s 0 ((i + 1 : Nat) : Int) (i, id, n)).2 M' := by
 rw [flat_push hf h.hH hi]
 have hm := may_wide h hg (by omega) hi n
 unfold enq
 dsimp only
 rw [hm]
 by_cases h0 : n = 0 ∨ 65535 < n
 · rw [if_pos h0, if_pos h0, if_pos (by omega)]
   exact ⟨rfl, M, ⟨h.bk, h.q0, h.q1, h.vi, h.tg, h.hH, h.m, h.rs, h.fl, h.le, by have := h.tok; show mx ≤ st.tok + 65535 * (k + 1); omega, by have := h.by_; show st.by_ ≤ 65535 * (k + 1); omega, by have := h.pk; omega⟩⟩
 · have h1 := h.m
   have h2 := h.pk
   rw [if_neg h0, if_neg h0, if_neg (by omega), if_neg (by omega), rank_wide hi]
   dsimp only
   obtain ⟨T, hT⟩ : ∃ T, st.tags.getD i 0 = T := ⟨_, rfl⟩
   obtain ⟨R, hR⟩ : ∃ R, max st.virt T = R := ⟨_, rfl⟩
   have hTl : T ≤ mx := by rw [← hT]; exact Sh.getD_le hg.tg
   have hRl : R ≤ mx := by rw [← hR]; have := hg.vt; omega
   have htl : i < st.tags.length := by rw [hg.tl]; show i < (wfl ws).length; rw [wfl_len]; exact hi
   have hset : ∀ j v, (st.tags.set i v).getD j 0 = if j = i then v else st.tags.getD j 0 := fun j v => by
    rw [List.getD_eq_getElem?_getD, List.getD_eq_getElem?_getD, List.getElem?_set]
    by_cases e : i = j
    · subst e; rw [if_pos rfl, if_pos rfl, if_pos htl]; rfl
    · rw [if_neg e, if_neg (fun h => e h.symm)]
   have hrk : Tree.rk sh { s with m := s.m + 1 } 0 (chi (i + 1)) = R := by
    unfold Tree.rk
    rw [if_neg (by rw [hf.k0]; omega), if_neg (by rw [hf.k0]; omega), if_neg (by rw [hf.l0 (by omega)]; simp)]
    show max (s.vi 0) (s.tg ((i + 1 : Nat) : Int).toNat) = R
    rw [Int.toNat_natCast, h.vi, h.tg i hi, hT, hR]
   have hz : ∀ a ∈ s.q (i + 1), a.1 = 0 := fun a ha => by
    rw [h.q1 i hi] at ha
    obtain ⟨b, _, rfl⟩ := List.mem_map.1 ha
    rfl
   have hle : ∀ a ∈ M, a.2.1 = i → a.1 ≤ R := fun a ha he => by
    have := h.le a ha
    rw [he, hT] at this
    omega
   rw [hT, hR]
   refine ⟨rfl, ins R (i, id, n) M, ?_⟩
   constructor
   · show Bk.push st.bk R (i, id, n) = _
     rw [h.bk]; rfl
   · show (put1 sh s i (i, id, n)).q 0 = _
     rw [put1_q hf i _ hz, if_pos rfl, hrk, h.q0, ins_map]
   · intro j hj
     show (put1 sh s i (i, id, n)).q (j + 1) = _
     rw [put1_q hf i _ hz, if_neg (by omega)]
     by_cases e : j = i
     · subst e
       rw [if_pos rfl, h.q1 j hj, ins_ofF_same (p := (j, id, n)) h.rs hle, List.map_append]; rfl
     · rw [if_neg (by omega), h.q1 j hj, ins_ofF_other (p := (i, id, n)) (fun h => e h.symm)]
   · show (put1 sh s i (i, id, n)).vi 0 = st.virt
     rw [put1_vi]; exact h.vi
   · intro j hj
     show (put1 sh s i (i, id, n)).tg (j + 1) = (st.tags.set i _).getD j 0
     rw [put1_tg hf (by omega), if_pos rfl, hset]
     by_cases e : j = i
     · subst e
       rw [up_at, if_pos rfl, h.vi, h.tg j hj, hT, hR, hf.w1 j hj]
       show mad R ws[j] n = _
       unfold mad
       have e2 : ws.getD j 0 = ws[j] := by rw [List.getD_eq_getElem?_getD, List.getElem?_eq_getElem hj]; rfl
       rw [e2]
       generalize ws[j] * n = X
       unfold mx
       omega
     · rw [up_off _ (by omega), if_neg e]; exact h.tg j hj
   · show (put1 sh s i (i, id, n)).H = []
     rw [put1_H]; exact h.hH
   · show (put1 sh s i (i, id, n)).m = _
     rw [put1_m, ins_len, h.m]
   · exact ins_rises h.rs
   · intro a ha
     rcases ins_mem.1 ha with rfl | ha
     · exact hi
     · exact h.fl a ha
   · intro a ha
     show a.1 ≤ (st.tags.set i _).getD a.2.1 0
     rw [hset]
     rcases ins_mem.1 ha with rfl | ha
     · rw [if_pos rfl]; omega
     · by_cases e : a.2.1 = i
       · rw [if_pos e]; have := hle a ha e; omega
       · rw [if_neg e]; exact h.le a ha
   · show mx ≤ st.tok + 65535 * (k + 1)
     have := h.tok; omega
   · show st.by_ + n ≤ 65535 * (k + 1)
     have := h.by_; omega
   · rw [ins_len]; omega
theorem br_pop (hs : sh.Ok) (hf : FlatSh sh 3 ws 0) (hw : 0 < ws.length) {room : Nat} (hgt : Tree.Good sh room s) (h : Br ws k st s M) (hg : Sh.Good (wide ws back) st) (hk : k < 150) :
 (deq (wide ws back) st).1.pkt = (pop sh s 0).1 ∧ (deq (wide ws back) st).1.code = (pop sh s 0).2.1 ∧ ∃ M', Br ws (k + 1) (deq (wide ws back) st).2 (pop sh s 0).2.2 M' := by
 have hps : Tree.pass sh s 0 = s := Tree.pass_still h.hH 0 (Nat.zero_le _)
 cases M with
 | nil =>
   have hm : s.m = 0 := h.m
   have e : pop sh s 0 = ((0, 0, 0), 18, s) := by unfold pop; rw [hps]; simp only; rw [if_pos hm]
   have hpk : st.bk.peek = none := by rw [h.bk]; rfl
   unfold deq
   rw [e, hpk]
   exact ⟨rfl, rfl, [], ⟨h.bk, h.q0, h.q1, h.vi, h.tg, h.hH, h.m, h.rs, h.fl, h.le, by have := h.tok; show mx ≤ st.tok + 65535 * (k + 1); omega, by have := h.by_; show st.by_ ≤ 65535 * (k + 1); omega, by have := h.pk; omega⟩⟩
 | cons a M' =>
   obtain ⟨r, p⟩ := a
   have hm : s.m ≠ 0 := by rw [h.m]; simp
   have hq0 := h.q0
   rw [List.map_cons] at hq0
   have hpl := h.fl (r, p) (List.mem_cons_self ..)
   have hq1 := h.q1 p.1 hpl
   have hof : ofF p.1 ((r, p) :: M') = (r, p) :: ofF p.1 M' := by unfold ofF; rw [List.filter_cons, if_pos (by simp)]
   rw [hof, List.map_cons] at hq1
   rcases flat_pop hs hf hw hps hgt with ⟨_, h9⟩ | ⟨_, h9⟩ | ⟨r2, t0, i, r1, p2, t1, g0, gi, g1, g2⟩
   · exact absurd h9 hm
   · rw [hq0] at h9; cases h9
   · rw [hq0] at g0
     injection g0 with ga gb
     injection ga with ga1 ga2
     subst ga1 gb
     have hip : i = p.1 := by
      have := congrArg Prod.fst ga2
      simp only at this
      omega
     subst hip
     rw [hq1] at g1
     injection g1 with gc gd
     injection gc with gc1 gc2
     have hp2 : p = p2 := congrArg Prod.snd gc2
     subst hp2 gd
     have egot : got sh s r (M'.map (fun a => (a.1, chi (a.2.1 + 1)))) p.1 ((ofF p.1 M').map (fun a => (0, ((0 : Int), a.2)))) = { s with m := s.m - 1, vi := up s.vi 0 r, q := up (up s.q 0 (M'.map (fun a => (a.1, chi (a.2.1 + 1))))) (p.1 + 1) ((ofF p.1 M').map (fun a => (0, ((0 : Int), a.2)))) } := by
      unfold got
      have e3 : Tree.stepped sh { s with m := s.m - 1 } 0 r (M'.map (fun a => (a.1, chi (a.2.1 + 1)))) = if sh.kind 0 = 3 then { s with m := s.m - 1, q := up s.q 0 (M'.map (fun a => (a.1, chi (a.2.1 + 1)))), vi := up s.vi 0 r } else { s with m := s.m - 1, q := up s.q 0 (M'.map (fun a => (a.1, chi (a.2.1 + 1)))) } := rfl
      rw [e3, if_pos hf.k0]
     rw [g2, egot]
     have hpk : st.bk.peek = some (r, p) := by rw [h.bk]; rfl
     have hmem := hg.mem (r, p) (by rw [h.bk]; exact List.mem_cons_self ..)
     have htk := h.tok
     unfold deq
     rw [hpk]
     dsimp only
     have hlen : p.2.2 ≤ 65535 := hmem.2.2.2.2.1
     rw [if_neg (by unfold mx at htk; omega)]
     have hpos : 1 ≤ p.2.2 := hmem.2.2.2.1
     have hrs := List.pairwise_cons.1 h.rs
     refine ⟨rfl, rfl, M', ?_⟩
     constructor
     · show st.bk.pop = _
       rw [h.bk]; rfl
     · show up (up s.q 0 (M'.map (fun a => (a.1, chi (a.2.1 + 1))))) (p.1 + 1) ((ofF p.1 M').map (fun a => (0, ((0 : Int), a.2)))) 0 = _
       rw [up_off _ (show (0 : Nat) ≠ p.1 + 1 by omega), up_at]
     · intro j hj
       show up (up s.q 0 (M'.map (fun a => (a.1, chi (a.2.1 + 1))))) (p.1 + 1) ((ofF p.1 M').map (fun a => (0, ((0 : Int), a.2)))) (j + 1) = _
       by_cases e : j = p.1
       · subst e; rw [up_at]
       · rw [up_off _ (show j + 1 ≠ p.1 + 1 by omega), up_off _ (show j + 1 ≠ 0 by omega), h.q1 j hj]
         have : ofF j ((r, p) :: M') = ofF j M' := by unfold ofF; rw [List.filter_cons, if_neg (by simpa using fun h => e h.symm)]
         rw [this]
     · show up s.vi 0 r 0 = (if (1 : Int) = 1 then r else st.virt)
       rw [up_at, if_pos rfl]
     · exact h.tg
     · exact h.hH
     · show s.m - 1 = M'.length
       rw [h.m]; rfl
     · exact hrs.2
     · exact fun a ha => h.fl a (List.mem_cons_of_mem _ ha)
     · exact fun a ha => h.le a (List.mem_cons_of_mem _ ha)
     · show mx ≤ st.tok - p.2.2 + 65535 * (k + 1)
       unfold mx at htk ⊢; omega
     · show st.by_ - p.2.2 ≤ 65535 * (k + 1)
       have := h.by_; omega
     · have := h.pk
       rw [List.length_cons] at this
       omega
theorem br0 (hb : back ≠ 3) : Br ws 0 (Sh.st0 (wide ws back)) Tree.s0 [] where
 bk := if_neg hb
 q0 := rfl
 q1 := fun _ _ => rfl
 vi := rfl
 tg := fun i _ => by
  show 0 = ((wfl ws).map _).getD i 0
  rw [List.getD_eq_getElem?_getD, List.getElem?_map]
  cases (wfl ws)[i]? <;> rfl
 hH := rfl
 m := rfl
 rs := List.Pairwise.nil
 fl := fun a ha => by cases ha
 le := fun a ha => by cases ha
 tok := by show mx ≤ mx + 65535 * 0; omega
 by_ := Nat.le_refl _
 pk := Nat.le_refl _
end
end Go.Proofs.YtpgpjjkeginbbaaGreatDoor.Br

