/- TreeLeast0, AhK, Ah0, one behind the other. -/
import Derived.Test.YtpgpjjkeginbbaaGreatDoorMtTf
import Derived.Test.YtpgpjjkeginbbaaGreatDoorMtA
namespace Go.Proofs.YtpgpjjkeginbbaaGreatDoor.Tree
open HeapE (El)
open WheelR (Ri)
open Cal (ins Rises ins_mem ins_len ins_rises ins_behind)
/-- What the law knows of a tree of the kind Least, of which so many wait. -/
structure Lst (sh : Sh) (ws : List Nat) (s : TS) (W : List Nat) : Prop where
 H : s.H = []
 now : s.now = 0
 len : W.length = ws.length
 cnt : ∀ i x, W[i]? = some x → (s.q (i + 1)).length = x
 zero : ∀ i, i < ws.length → ∀ a ∈ s.q (i + 1), a.1 = 0 ∧ a.2.2.1 = i
 rnk : ∀ a ∈ s.q 0, ∃ i x, ws[i]? = some x ∧ a = (x, chi (i + 1))
 ris : Rises (s.q 0)
section
variable {sh : Sh} {s : TS} {room : Nat} {ws W : List Nat}
theorem Lst.push (hf : FlatSh sh 2 ws 0) (h : Lst sh ws s W) {i x : Nat} (hi : i < ws.length) (hx : W[i]? = some x) (id len : Nat) : Lst sh ws (put1 sh s i (i, id, len)) (W.set i (x + 1)) := by
 have hq := put1_q (s := s) hf i (i, id, len) (fun a ha => (h.zero i hi a ha).1)
 have hrk : rk sh { s with m := s.m + 1 } 0 (chi (i + 1)) = ws[i] := by
  unfold rk
  rw [hf.k0, if_neg (by omega), if_pos rfl, hf.l0 (by omega), if_neg (by simp)]
  show sh.wt (((i + 1 : Nat) : Int)).toNat = _
  rw [Int.toNat_natCast, hf.w1 i hi]
 refine ⟨by rw [put1_H]; exact h.H, by rw [put1_now]; exact h.now, by rw [List.length_set]; exact h.len, fun j y hy => ?_, fun j hj a ha => ?_, fun a ha => ?_, ?_⟩
 · rw [hq, if_neg (by omega)]
   rw [List.getElem?_set] at hy
   by_cases e : i = j
   · subst e
     rw [if_pos rfl, if_pos (by rw [h.len]; exact hi)] at hy
     rw [if_pos rfl, List.length_append, h.cnt i x hx]
     exact Option.some.inj hy
   · rw [if_neg e] at hy
     rw [if_neg (by omega)]
     exact h.cnt j y hy
 · rw [hq, if_neg (by omega)] at ha
   by_cases e : j = i
   · subst e
     rw [if_pos rfl] at ha
     rcases List.mem_append.1 ha with ha | ha
     · exact h.zero j hj a ha
     · rw [List.mem_singleton] at ha; subst ha; exact ⟨rfl, rfl⟩
   · rw [if_neg (by omega)] at ha
     exact h.zero j hj a ha
 · rw [hq, if_pos rfl, hrk] at ha
   rcases ins_mem.1 ha with rfl | ha
   · exact ⟨i, _, List.getElem?_eq_getElem hi, rfl⟩
   · exact h.rnk a ha
 · rw [hq, if_pos rfl]
   exact ins_rises h.ris
theorem got_q (r : Nat) (t0 : List (Nat × El)) (i : Nat) (t1 : List (Nat × El)) (j : Nat) : (got sh s r t0 i t1).q j = if j = i + 1 then t1 else if j = 0 then t0 else s.q j := by
 show up (up s.q 0 t0) (i + 1) t1 j = _
 unfold up
 rfl
theorem got_H (r : Nat) (t0 : List (Nat × El)) (i : Nat) (t1 : List (Nat × El)) : (got sh s r t0 i t1).H = s.H := (stepped_gone (sh := sh) (s := { s with m := s.m - 1 }) 0 r t0).1.H
theorem got_now (r : Nat) (t0 : List (Nat × El)) (i : Nat) (t1 : List (Nat × El)) : (got sh s r t0 i t1).now = s.now := (stepped_gone (sh := sh) (s := { s with m := s.m - 1 }) 0 r t0).1.now
theorem got_m (r : Nat) (t0 : List (Nat × El)) (i : Nat) (t1 : List (Nat × El)) : (got sh s r t0 i t1).m = s.m - 1 := (stepped_gone (sh := sh) (s := { s with m := s.m - 1 }) 0 r t0).1.m
/-- What leaves is of a leaf of the least weight. -/
theorem Lst.pop (hs : sh.Ok) (hf : FlatSh sh 2 ws 0) (hw : 0 < ws.length) (hg : Good sh room s) (h : Lst sh ws s W) :
 (∃ v, v ≠ 0 ∧ pop sh s 0 = ((0, 0, 0), v, s)) ∨
 ∃ i id len x y s', pop sh s 0 = ((i, id, len), 0, s') ∧ i < ws.length ∧ W[i]? = some (x + 1) ∧ ws[i]? = some y ∧ Lst sh ws s' (W.set i x) ∧ ∀ (j a b : Nat), W[j]? = some a → ws[j]? = some b → 0 < a → y ≤ b := by
 have hp : pass sh s 0 = s := pass_still h.H 0 (Nat.zero_le _)
 rcases flat_pop hs hf hw hp hg with ⟨h1, _⟩ | ⟨h1, _⟩ | ⟨r, t0, i, r1, p, t1, h1, h2, h3, h4⟩
 · exact .inl ⟨18, by omega, h1⟩
 · exact .inl ⟨19, by omega, h1⟩
 · right
   have hn := hf.n
   obtain ⟨hz1, hz2⟩ := h.zero i h2 _ (by rw [h3]; exact List.mem_cons_self ..)
   obtain ⟨p1, p2, p3⟩ := p
   have hz2 : p1 = i := hz2
   subst hz2
   obtain ⟨i', y, hy, he⟩ := h.rnk (r, chi (p1 + 1)) (by rw [h1]; exact List.mem_cons_self ..)
   have hr : r = y := congrArg Prod.fst he
   have hi' : p1 = i' := by
    have h9 := congrArg (fun a : Nat × El => a.2.1) he
    change ((p1 + 1 : Nat) : Int) = ((i' + 1 : Nat) : Int) at h9
    omega
   subst hr
   subst hi'
   have hlen : (s.q (p1 + 1)).length = t1.length + 1 := by rw [h3]; rfl
   have hWi : W[p1]? = some (W[p1]'(by rw [h.len]; exact h2)) := List.getElem?_eq_getElem _
   have hWx := h.cnt p1 _ hWi
   rw [hlen] at hWx
   rw [← hWx] at hWi
   refine ⟨p1, p2, p3, t1.length, r, _, h4, h2, hWi, hy, ⟨by rw [got_H]; exact h.H, by rw [got_now]; exact h.now, by rw [List.length_set]; exact h.len, fun j z hz => ?_, fun j hj a ha => ?_, fun a ha => ?_, ?_⟩, fun j a b ha hb h0 => ?_⟩
   · rw [List.getElem?_set] at hz
     by_cases e : p1 = j
     · subst e
       rw [if_pos rfl, if_pos (by rw [h.len]; exact h2)] at hz
       rw [got_q, if_pos rfl]
       exact Option.some.inj hz
     · rw [if_neg e] at hz
       rw [got_q, if_neg (by omega), if_neg (by omega)]
       exact h.cnt j z hz
   · rw [got_q] at ha
     by_cases e : j = p1
     · subst e
       rw [if_pos rfl] at ha
       exact h.zero j hj a (by rw [h3]; exact List.mem_cons_of_mem _ ha)
     · rw [if_neg (by omega), if_neg (by omega)] at ha
       exact h.zero j hj a ha
   · rw [got_q, if_neg (by omega), if_pos rfl] at ha
     exact h.rnk a (by rw [h1]; exact List.mem_cons_of_mem _ ha)
   · rw [got_q, if_neg (by omega), if_pos rfl]
     have := h.ris
     rw [h1] at this
     exact (List.pairwise_cons.1 this).2
   · have hj : j < ws.length := by
      rcases Nat.lt_or_ge j ws.length with h' | h'
      · exact h'
      · rw [List.getElem?_eq_none h'] at hb; cases hb
     have hc := hg.bal.cnt (j + 1) (by omega) (by omega)
     rw [h.cnt j a ha, hf.par, h.H, if_neg (by omega)] at hc
     have hc2 : 0 < cntE (j + 1) (s.q 0) := by
      have : cntH (j + 1) ([] : List (Nat × Ri)) = 0 := rfl
      omega
     obtain ⟨e, he1, he2⟩ := List.countP_pos_iff.1 hc2
     have he2 : e.2.1 = ((j + 1 : Nat) : Int) := of_decide_eq_true he2
     obtain ⟨j', z, hz, hez⟩ := h.rnk e he1
     subst hez
     have hjj : j' = j := by
      change ((j' + 1 : Nat) : Int) = ((j + 1 : Nat) : Int) at he2
      omega
     subst hjj
     rw [hb] at hz
     cases hz
     rw [h1] at he1
     have hri := h.ris
     rw [h1] at hri
     rcases List.mem_cons.1 he1 with he1 | he1
     · exact Nat.le_of_eq (congrArg Prod.fst he1).symm
     · exact (List.pairwise_cons.1 hri).1 _ he1
end
end Go.Proofs.YtpgpjjkeginbbaaGreatDoor.Tree
namespace Go.Proofs.YtpgpjjkeginbbaaGreatDoor.Ah
/-- An item that waits: flow, number, length, since when, how many ahead. -/
abbrev It : Type := Nat × Nat × Nat × Nat × Nat
/-- A class: what waits, its bytes (as they are counted), how many came in, and left. -/
structure Ek where
 l : List It
 bys : Nat
 inn : Nat
 left : Nat
def k0 : Ek := ⟨[], 0, 0, 0⟩
/-- An item's packet. -/
abbrev pk (x : It) : Nat × Nat × Nat := (x.1, x.2.1, x.2.2.1)
/-- A packet comes into a class, one leaves it. -/
def kin (k : Ek) (now : Nat) (p : Nat × Nat × Nat) : Ek := ⟨k.l ++ [(p.1, p.2.1, p.2.2, now, k.inn)], (k.bys + p.2.2) % 18446744073709551616, k.inn + 1, k.left⟩
def kout (k : Ek) (x : It) (t : List It) : Ek := ⟨t, (k.bys + 18446744073709551616 - x.2.2.1) % 18446744073709551616, k.inn, k.left + 1⟩
end Go.Proofs.YtpgpjjkeginbbaaGreatDoor.Ah
namespace Go.Proofs.YtpgpjjkeginbbaaGreatDoor.Ah
open Tree (TS FlatSh Lst chi put1 got push pop flat_push flat_pop put1_q put1_m got_q got_m)
set_option linter.unusedSimpArgs false
theorem sum_set : ∀ {W : List Nat} {i x : Nat} (y : Nat), W[i]? = some x → (W.set i y).sum + x = W.sum + y
 | [], i, x, y, h => by simp at h
 | a :: t, 0, x, y, h => by
   have h : a = x := by simpa using h
   subst h
   simp only [List.set_cons_zero, List.sum_cons]; omega
 | a :: t, i + 1, x, y, h => by
   have := sum_set (W := t) (i := i) y (by simpa using h)
   simp only [List.set_cons_succ, List.sum_cons]; omega
theorem le_sum : ∀ {W : List Nat} {i x : Nat}, W[i]? = some x → x ≤ W.sum
 | [], i, x, h => by simp at h
 | a :: t, 0, x, h => by
   have h : a = x := by simpa using h
   subst h
   simp only [List.sum_cons]; omega
 | a :: t, i + 1, x, h => by
   have := le_sum (W := t) (i := i) (by simpa using h)
   simp only [List.sum_cons]; omega
theorem sum_zero : ∀ {W : List Nat}, (∀ (i x : Nat), W[i]? = some x → x = 0) → W.sum = 0
 | [], _ => rfl
 | a :: t, h => by
   have h1 := h 0 a rfl
   have h2 := sum_zero (W := t) (fun i x hx => h (i + 1) x (by simpa using hx))
   simp only [List.sum_cons]; omega
/-- The classes and the tree have the same. -/
structure Ah (n : Nat) (sh : Tree.Sh) (s : TS) (q : List Ek) (W : List Nat) : Prop where
 lst : Lst sh (List.range n) s W
 len : q.length = n
 q1 : ∀ i k, q[i]? = some k → s.q (i + 1) = k.l.map (fun x => (0, ((0 : Int), pk x)))
 m : s.m = W.sum
section
variable {n : Nat} {sh : Tree.Sh} {s : TS} {q : List Ek} {W : List Nat}
theorem Ah.w (h : Ah n sh s q W) {i : Nat} {k : Ek} (hk : q[i]? = some k) : W[i]? = some k.l.length := by
 have hi : i < n := by
  rcases Nat.lt_or_ge i q.length with h' | h'
  · rw [← h.len]; exact h'
  · rw [List.getElem?_eq_none h'] at hk; cases hk
 have hlt : i < W.length := by rw [h.lst.len, List.length_range]; exact hi
 have h1 := h.lst.cnt i _ (List.getElem?_eq_getElem hlt)
 rw [h.q1 i k hk, List.length_map] at h1
 rw [List.getElem?_eq_getElem hlt, h1]
theorem ah_bad (hf : FlatSh sh 2 (List.range n) 0) (h : Ah n sh s q W) {i : Nat} (hi : i < n) (a id len : Nat) (hl : len = 0 ∨ 65535 < len) : push sh 4096 s 0 ((i + 1 : Nat) : Int) (a, id, len) = (12, s) := by
 rw [flat_push hf h.lst.H (by rw [List.length_range]; exact hi), if_pos hl]
theorem ah_push (hf : FlatSh sh 2 (List.range n) 0) (h : Ah n sh s q W) (hm : s.m < 4096) {i : Nat} {k : Ek} (hk : q[i]? = some k) (now id len : Nat) (h1 : 1 ≤ len) (h2 : len ≤ 65535) :
 ∃ s' W', push sh 4096 s 0 ((i + 1 : Nat) : Int) (i, id, len) = (0, s') ∧ Ah n sh s' (q.set i (kin k now (i, id, len))) W' ∧ s'.m = s.m + 1 := by
 have hil : i < q.length := by
  rcases Nat.lt_or_ge i q.length with h' | h'
  · exact h'
  · rw [List.getElem?_eq_none h'] at hk; cases hk
 have hi : i < n := by rw [← h.len]; exact hil
 have hir : i < (List.range n).length := by rw [List.length_range]; exact hi
 have hw := h.w hk
 refine ⟨put1 sh s i (i, id, len), W.set i (k.l.length + 1), ?_, ⟨h.lst.push hf hir hw id len, by rw [List.length_set]; exact h.len, fun j k' hk' => ?_, ?_⟩, put1_m ..⟩
 · rw [flat_push hf h.lst.H hir, if_neg (by show ¬ (len = 0 ∨ 65535 < len); omega), if_neg (by omega)]
 · have hq := put1_q (s := s) hf i (i, id, len) (fun a ha => (h.lst.zero i hir a ha).1) (j + 1)
   rw [hq, if_neg (by omega)]
   rw [List.getElem?_set] at hk'
   by_cases e : i = j
   · subst e
     rw [if_pos rfl, if_pos hil] at hk'
     rw [if_pos rfl, h.q1 i k hk, ← Option.some.inj hk']
     unfold kin
     rw [List.map_append]; rfl
   · rw [if_neg e] at hk'
     rw [if_neg (by omega)]
     exact h.q1 j k' hk'
 · rw [put1_m, h.m]
   have := sum_set (k.l.length + 1) hw
   omega
theorem ah_none (h : Ah n sh s q W) (hq : ∀ k ∈ q, k.l = []) : pop sh s 0 = ((0, 0, 0), 18, s) := by
 have hps : Tree.pass sh s 0 = s := Tree.pass_still h.lst.H 0 (Nat.zero_le _)
 have hm : s.m = 0 := by
  rw [h.m]
  refine sum_zero (fun i x hx => ?_)
  have hlt : i < q.length := by
   rw [h.len, ← List.length_range (n := n), ← h.lst.len]
   rcases Nat.lt_or_ge i W.length with h' | h'
   · exact h'
   · rw [List.getElem?_eq_none h'] at hx; cases hx
  have h1 := h.w (List.getElem?_eq_getElem hlt)
  rw [hx, hq _ (List.getElem_mem hlt)] at h1
  exact Option.some.inj h1
 unfold pop
 rw [hps]
 simp only
 rw [if_pos hm]
theorem ah_pop (hs : sh.Ok) (hf : FlatSh sh 2 (List.range n) 0) {room : Nat} (hg : Tree.Good sh room s) (h : Ah n sh s q W) {i : Nat} {k : Ek} {x : It} {t : List It} (hk : q[i]? = some k) (hl : k.l = x :: t) (hfst : ∀ j k', j < i → q[j]? = some k' → k'.l = []) :
 x.1 = i ∧ ∃ s' W', pop sh s 0 = (pk x, 0, s') ∧ Ah n sh s' (q.set i (kout k x t)) W' ∧ s'.m ≤ s.m := by
 have hil : i < q.length := by
  rcases Nat.lt_or_ge i q.length with h' | h'
  · exact h'
  · rw [List.getElem?_eq_none h'] at hk; cases hk
 have hi : i < n := by rw [← h.len]; exact hil
 have hir : i < (List.range n).length := by rw [List.length_range]; exact hi
 have hw0 : 0 < (List.range n).length := by omega
 have hw := h.w hk
 rw [hl] at hw
 have hps : Tree.pass sh s 0 = s := Tree.pass_still h.lst.H 0 (Nat.zero_le _)
 have hpos : s.m ≠ 0 := by
  have := le_sum hw
  rw [h.m]
  rw [List.length_cons] at this
  omega
 rcases flat_pop hs hf hw0 hps hg with ⟨_, h9⟩ | ⟨_, h9⟩ | ⟨r, t0, i', r1, p, t1, g0, g1, g2, g3⟩
 · exact absurd h9 hpos
 · exfalso
   have hn := hf.n
   have hc := hg.bal.cnt (i + 1) (by omega) (by omega)
   rw [h.q1 i k hk, hf.par, h.lst.H, if_neg (by omega), hl, List.length_map, List.length_cons, h9] at hc
   have hz : Tree.cntH (i + 1) ([] : List (Nat × WheelR.Ri)) = 0 := rfl
   have hz2 : Tree.cntE (i + 1) ([] : List (Nat × HeapE.El)) = 0 := rfl
   omega
 · rcases h.lst.pop hs hf hw0 hg with ⟨v, hv, e⟩ | ⟨i2, id, len, y, z, s', e, h2, h3, h4, h5, h6⟩
   · rw [g3] at e
     injection e with _ e
     injection e with e _
     exact absurd e.symm hv
   · rw [g3] at e
     injection e with e1 e2
     injection e2 with _ e3
     subst e1 e3
     have hz := (h.lst.zero i' g1 _ (by rw [g2]; exact List.mem_cons_self ..)).2
     have hz : i2 = i' := hz
     subst hz
     have hi2n : i2 < n := by rw [List.length_range] at h2; exact h2
     obtain ⟨k2, hk2⟩ : ∃ k2, q[i2]? = some k2 := ⟨q[i2]'(by rw [h.len]; exact hi2n), List.getElem?_eq_getElem _⟩
     have hw2 := h.w hk2
     rw [h3] at hw2
     have hne : k2.l.length = y + 1 := (Option.some.inj hw2).symm
     have hz2 : z = i2 := by
      rw [List.getElem?_range (by rw [List.length_range] at h2; exact h2)] at h4
      exact (Option.some.inj h4).symm
     subst hz2
     have hle := h6 i _ i hw (List.getElem?_range hi) (by rw [List.length_cons]; omega)
     have hge : i ≤ z := by
      rcases Nat.lt_or_ge z i with h' | h'
      · have := hfst z k2 h' hk2
        rw [this] at hne
        simp at hne
      · exact h'
     obtain rfl : z = i := by omega
     rw [h.q1 z k hk, hl, List.map_cons] at g2
     injection g2 with ga gb
     injection ga with _ gc
     have gd : pk x = (z, id, len) := congrArg Prod.snd gc
     refine ⟨congrArg Prod.fst gd, _, W.set z y, by rw [g3, gd], ⟨h5, by rw [List.length_set]; exact h.len, fun j k' hk' => ?_, ?_⟩, by rw [got_m]; omega⟩
     · rw [got_q]
       rw [List.getElem?_set] at hk'
       by_cases e : z = j
       · subst e
         rw [if_pos rfl, if_pos hil] at hk'
         rw [if_pos rfl, ← Option.some.inj hk', ← gb]
         rfl
       · rw [if_neg e] at hk'
         rw [if_neg (by omega), if_neg (by omega)]
         exact h.q1 j k' hk'
     · rw [got_m, h.m]
       have := sum_set y h3
       omega
end
theorem ah0 (n : Nat) (sh : Tree.Sh) : Ah n sh Tree.s0 (List.replicate n k0) (List.replicate n 0) where
 lst := ⟨rfl, rfl, by simp, fun i x hx => by
  have := List.mem_of_getElem? hx
  rw [(List.mem_replicate.1 this).2]; rfl, fun i _ a ha => (by cases ha), fun a ha => (by cases ha), List.Pairwise.nil⟩
 len := by simp
 q1 := fun i k hk => by
  have := List.mem_of_getElem? hk
  rw [(List.mem_replicate.1 this).2]; rfl
 m := by
  show 0 = (List.replicate n 0).sum
  simp
end Go.Proofs.YtpgpjjkeginbbaaGreatDoor.Ah

